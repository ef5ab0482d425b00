/- The walks over a heap's methods. -/
import Derived.Test.YthmkmjoeceghiaaA
import Derived.Test.YthmkmjoeceghiaaY
import Derived.Deep.RegionHeld3
import Derived.Deep.DrawnRows
import Derived.WalkSpells
namespace Go.Proofs.Ythmkmjoeceghiaa
open Go.RowKit

attribute [local go_sem ↓] Go.wp_at_zero Go.wp_at_succ
/-- block g holds cs, none frozen -/
def Blk (w : World) (g : Nat) (cs : Array Value) (t : TypeId) : Prop := w.heap[g]? = some (.cells cs t (0, 0))
theorem Blk.lt {w : World} {g : Nat} {cs : Array Value} {t : TypeId} (h : Blk w g cs t) : g < w.heap.size := (Array.getElem?_eq_some_iff.1 h).1
theorem Blk.cell {w : World} {g : Nat} {cs : Array Value} {t : TypeId} (h : Blk w g cs t) {i : Nat} {v : Value} (hv : cs[i]? = some v) : w.cell? ⟨g, i, none⟩ = some v := by
  unfold Blk at h; simp [World.cell?, h, hv]
theorem Blk.frozen {w : World} {g : Nat} {cs : Array Value} {t : TypeId} (h : Blk w g cs t) (i : Nat) : w.frozen? ⟨g, i, none⟩ = false := by
  unfold Blk at h; simp [World.frozen?, h]
theorem Blk.grown {w w' : World} {g : Nat} {row : Option Nat} {cs : Array Value} {t : TypeId} (h : Blk w g cs t) (hg : w.grownBy w' row) (hn : some g ≠ row) : Blk w' g cs t := (hg.block g h.lt hn).trans h
theorem Blk.alloc {w : World} {g : Nat} {cs : Array Value} {t : TypeId} (h : Blk w g cs t) (o : Obj) : Blk (w.alloc o) g cs t := h.grown (World.grownBy_alloc w o none) (by simp)
theorem Blk.new (w : World) (cs : Array Value) (t : TypeId) : Blk (w.alloc (.cells cs t)) w.heap.size cs t := heap_alloc_new w _
theorem Blk.below {w w' : World} {g : Nat} {cs : Array Value} {t : TypeId} (h : Blk w g cs t) (hb : Below w.heap.size w w') : Blk w' g cs t := (hb.block g h.lt).trans h
theorem grown_of_below {w w' : World} (h : Below w.heap.size w w') (row : Option Nat) : w.grownBy w' row := ⟨h.os, h.tape, h.output, h.size, fun i hi _ => h.block i hi⟩
theorem grown_trans {a b c : World} {g : Nat} (h : a.grownBy b (some g)) (k : b.grownBy c (some g)) : a.grownBy c (some g) :=
  ⟨k.os.trans h.os, k.tape.trans h.tape, k.output.trans h.output, Nat.le_trans h.size k.size, fun i hi hn => (k.block i (Nat.lt_of_lt_of_le hi h.size) hn).trans (h.block i hi hn)⟩

/-- the heap at B, its map at M, of n entries at most: S is out -/
structure Hp (w : World) (B M n : Nat) (S : List Ob) : Prop where
  bB : Blk w B #[.map (some M)] 44
  map : ∃ D : DataW Unit, w.ownsMap Try.prog 30 (unitElem (H := Unit)) M n D ∧ ∀ o, WfO o → Maps.has D (kl o) = decide (o ∈ S)
  wf : ∀ o ∈ S, WfO o
theorem Hp.lt {w : World} {B M n : Nat} {S : List Ob} (h : Hp w B M n S) : M < w.heap.size := by obtain ⟨D, hD, _⟩ := h.map; exact hD.lt
theorem Hp.ne {w : World} {B M n : Nat} {S : List Ob} (h : Hp w B M n S) : B ≠ M := by
  intro e
  obtain ⟨D, ⟨es, cl, hD, _⟩, _⟩ := h.map
  have := h.bB
  unfold Blk at this
  rw [e, hD] at this
  cases this
theorem Hp.below {w w' : World} {B M n : Nat} {S : List Ob} (h : Hp w B M n S) (hb : Below w.heap.size w w') : Hp w' B M n S := by
  obtain ⟨D, hD, hh⟩ := h.map
  exact ⟨h.bB.below hb, ⟨D, hD.kept (grown_of_below hb none) (by simp), hh⟩, h.wf⟩
theorem Hp.mono {w : World} {B M n n' : Nat} {S : List Ob} (h : Hp w B M n S) (hn : n ≤ n') : Hp w B M n' S := by
  obtain ⟨D, hD, hh⟩ := h.map
  exact ⟨h.bB, ⟨D, hD.mono hn, hh⟩, h.wf⟩
theorem zero69 (w : World) : (zeroValue 69).run Try.prog w = .ok (.agg #[]) w := by kernel_rfl
/-- the look-up -/
theorem Hp.look {w : World} {B M n : Nat} {S : List Ob} (h : Hp w B M n S) {o : Ob} (ho : WfO o) : (Instr.lookup 42 (.map (some M)) (obV o) true).run Try.prog w = .ok (.tuple #[.agg #[], .bool (decide (o ∈ S))]) w := by
  obtain ⟨D, hD, hh⟩ := h.map
  obtain ⟨v, ps, hr, hv⟩ := hD.look_ok law30 Try.underlying42 (zero69 w) unitElem_mk (key_of ho)
  rw [hh o ho] at hr
  rw [(unitElem_inv hv).1] at hr
  exact hr

set_option maxHeartbeats 400000 in
theorem none_any (B M n : Nat) (S : List Ob) (w : World) (h : Hp w B M n S) : Calls Try.prog 44 #[.pointer (some ⟨B, 0, none⟩)] w fun e w' => e = .returned (.bool false) ∧ w = w' := by
  have c0 := h.bB.cell (i := 0) rfl
  simp at c0
  have hm := fun (w : World) => run_eql_map_nil (P := Try.prog) w 42 30 69 (some M) Try.underlying42
  clear h
  go_enter Try.func44, Try.ntmps44
  go_wp2_with fail
  go_ret
  exact ⟨rfl, rfl⟩

set_option maxRecDepth 100000 in
set_option maxHeartbeats 400000 in
theorem has_any (B M n : Nat) (S : List Ob) (o : Ob) (w : World) (h : Hp w B M n S) (ho : WfO o) :
    Calls Try.prog 24 #[.pointer (some ⟨B, 0, none⟩), obV o] w fun e w' => e = .returned (.bool (decide (o ∈ S))) ∧ Below w.heap.size w w' := by
  have hal : Below w.heap.size w (w.alloc (.cells #[.int .i64 o.1, .int .i64 o.2.1, .int .i64 o.2.2] 30)) := (by repeat (first | exact Below.refl _ _ | assumption | refine Below.setCell ?_ (by first | omega | (simp; done) | (simp; omega)) _ | refine Below.drew ?_ | refine Below.alloc ?_ (by first | omega | (simp; done) | (simp; omega)) _ | refine Below.trans ?_ (Below.mono (by assumption) (by first | omega | (simp; done) | (simp; omega)))))
  have H := Lib.hid (h.below hal)
  have T := Lib.hid (Blk.new w #[.int .i64 o.1, .int .i64 o.2.1, .int .i64 o.2.2] 30)
  have HW := Lib.hid hal
  have HO := Lib.hid ho
  clear h hal ho
  go_enter Try.func24, Try.ntmps24
  go_wp2_with fail
  generalize w.alloc (.cells #[.int .i64 o.1, .int .i64 o.2.1, .int .i64 o.2.2] 30) = W at *
  refine (none_any B M n S W H.out).mono ?_
  rintro e w1 ⟨rfl, rfl⟩
  go_wp2_with fail
  have hB0 := H.out.bB.cell (i := 0) rfl
  have hT0 := T.out.cell (i := 0) rfl
  have hT1 := T.out.cell (i := 1) rfl
  have hT2 := T.out.cell (i := 2) rfl
  simp at hB0 hT0 hT1 hT2
  generalize w.heap.size = V at T hT0 hT1 hT2 ⊢
  have kA : W.drew.cell? ⟨B, 0, none⟩ = some (.map (some M)) ∧ W.drew.cell? ⟨V, 0, none⟩ = some (.int .i64 o.1) ∧ W.drew.cell? ⟨V, 1, none⟩ = some (.int .i64 o.2.1) ∧ W.drew.cell? ⟨V, 2, none⟩ = some (.int .i64 o.2.2) ∧ (Instr.lookup 42 (.map (some M)) (obV o) true).run Try.prog W.drew = .ok (.tuple #[.agg #[], .bool (decide (o ∈ S))]) W.drew :=
    ⟨hB0, hT0, hT1, hT2, (H.out.below (Below.refl _ _).drew).look HO.out⟩
  have kB : ∀ x : Obj, (W.alloc x).drew.cell? ⟨B, 0, none⟩ = some (.map (some M)) ∧ (W.alloc x).drew.cell? ⟨V, 0, none⟩ = some (.int .i64 o.1) ∧ (W.alloc x).drew.cell? ⟨V, 1, none⟩ = some (.int .i64 o.2.1) ∧ (W.alloc x).drew.cell? ⟨V, 2, none⟩ = some (.int .i64 o.2.2) ∧ (Instr.lookup 42 (.map (some M)) (obV o) true).run Try.prog (W.alloc x).drew = .ok (.tuple #[.agg #[], .bool (decide (o ∈ S))]) (W.alloc x).drew := fun x =>
    have hb : Below W.heap.size W (W.alloc x).drew := ((Below.refl _ _).alloc (Nat.le_refl _) x).drew
    ⟨below_cell hb (Nat.le_refl _) hB0, below_cell hb (Nat.le_refl _) hT0, below_cell hb (Nat.le_refl _) hT1, below_cell hb (Nat.le_refl _) hT2, (H.out.below hb).look HO.out⟩
  clear hB0 hT0 hT1 hT2
  go_region_held3 (fun w' => w'.cell? ⟨B, 0, none⟩ = some (.map (some M)) ∧ w'.cell? ⟨V, 0, none⟩ = some (.int .i64 o.1) ∧ w'.cell? ⟨V, 1, none⟩ = some (.int .i64 o.2.1) ∧ w'.cell? ⟨V, 2, none⟩ = some (.int .i64 o.2.2) ∧ (Instr.lookup 42 (.map (some M)) (obV o) true).run Try.prog w' = .ok (.tuple #[.agg #[], .bool (decide (o ∈ S))]) w')
    (first | exact kA | exact kB _) (fail)
  all_goals
    clear kA kB
    go_wp2_with fail
    go_ret
    exact ⟨rfl, (HW.out.alloc HW.out.size _).drew⟩

set_option maxRecDepth 100000 in
set_option maxHeartbeats 400000 in
theorem give_any (B M n : Nat) (S S' : List Ob) (o : Ob) (w : World) (h : Hp w B M n S) (ho : WfO o) (hn : n < maxLen) (hS : ∀ x, x ∈ S' ↔ x = o ∨ x ∈ S) :
    Calls Try.prog 45 #[.pointer (some ⟨B, 0, none⟩), obV o] w fun e w' => e = .returned (.bool (!decide (o ∈ S))) ∧ Hp w' B M (n + 1) S' ∧ w.grownBy w' (some M) := by
  have hal : Below w.heap.size w (w.alloc (.cells #[.int .i64 o.1, .int .i64 o.2.1, .int .i64 o.2.2] 30)) := (by repeat (first | exact Below.refl _ _ | assumption | refine Below.setCell ?_ (by first | omega | (simp; done) | (simp; omega)) _ | refine Below.drew ?_ | refine Below.alloc ?_ (by first | omega | (simp; done) | (simp; omega)) _ | refine Below.trans ?_ (Below.mono (by assumption) (by first | omega | (simp; done) | (simp; omega)))))
  have H := Lib.hid (h.below hal)
  have T := Lib.hid (Blk.new w #[.int .i64 o.1, .int .i64 o.2.1, .int .i64 o.2.2] 30)
  have HW := Lib.hid hal
  have HO := Lib.hid ho
  have HS := Lib.hid hS
  have hlt := h.lt
  clear h hal ho hS
  have hT0 := T.out.cell (i := 0) rfl
  have hT1 := T.out.cell (i := 1) rfl
  have hT2 := T.out.cell (i := 2) rfl
  go_enter Try.func45, Try.ntmps45
  go_wp2_with fail
  clear hT0 hT1 hT2
  generalize w.alloc (.cells #[.int .i64 o.1, .int .i64 o.2.1, .int .i64 o.2.2] 30) = W at *
  refine (has_any B M n S o W H.out HO.out).mono ?_
  rintro e w1 ⟨rfl, hb⟩
  replace H := Lib.hid (H.out.below hb)
  replace T := Lib.hid (T.out.below hb)
  replace HW := Lib.hid (on HW.out hb)
  clear hb
  go_wp2_with fail
  have hB0 := H.out.bB.cell (i := 0) rfl
  have hT0 := T.out.cell (i := 0) rfl
  have hT1 := T.out.cell (i := 1) rfl
  have hT2 := T.out.cell (i := 2) rfl
  simp at hB0 hT0 hT1 hT2
  obtain ⟨D, hD, hh⟩ := H.out.map
  obtain ⟨w2, hrun, hD2, htu⟩ := (hD.drew).store law30 Try.underlying42 hn (key_of HO.out) unitElem_mk
  have hne := H.out.ne
  have hg := htu.grown
  have hTM : w.heap.size ≠ M := by omega
  have cB : w2.cell? ⟨B, 0, none⟩ = some (.map (some M)) := (World.cell?_of_block (w := w1.drew) (a := ⟨B, 0, none⟩) (hg.block B H.out.bB.lt (by simpa using hne))).trans hB0
  have KK : Hp w2 B M (n + 1) S' := ⟨(hg.block B H.out.bB.lt (by simpa using hne)).trans H.out.bB, ⟨_, hD2, fun x hx => by
    by_cases e : x = o
    · subst e
      rw [Maps.has_put_same (hD.isMap) (isKey _)]
      exact (decide_eq_true ((HS.out x).2 (.inl rfl))).symm
    · rw [Maps.has_put_other (fun e2 => e (kl_inj hx HO.out e2)), hh x hx, Bool.eq_iff_iff]
      simp only [decide_eq_true_eq]
      exact ⟨fun h => (HS.out x).2 (.inr h), fun h => ((HS.out x).1 h).resolve_left e⟩⟩, fun x hx => by
        rcases (HS.out x).1 hx with rfl | h
        · exact HO.out
        · exact H.out.wf x h⟩
  have KH := Lib.hid KK
  have HG := Lib.hid (grown_trans (grown_of_below HW.out.drew (some M)) hg)
  clear KK hD hh hD2 htu hg cB
  have hHB : (fun w' : World => w'.cell? ⟨B, 0, none⟩ = some (.map (some M)) ∧ w'.cell? ⟨w.heap.size, 0, none⟩ = some (.int .i64 o.1) ∧ w'.cell? ⟨w.heap.size, 1, none⟩ = some (.int .i64 o.2.1) ∧ w'.cell? ⟨w.heap.size, 2, none⟩ = some (.int .i64 o.2.2)) w1.drew := ⟨hB0, hT0, hT1, hT2⟩
  refine till_start 6 (fun w' : World => w'.cell? ⟨B, 0, none⟩ = some (.map (some M)) ∧ w'.cell? ⟨w.heap.size, 0, none⟩ = some (.int .i64 o.1) ∧ w'.cell? ⟨w.heap.size, 1, none⟩ = some (.int .i64 o.2.1) ∧ w'.cell? ⟨w.heap.size, 2, none⟩ = some (.int .i64 o.2.2)) (by kernel_rfl) ?_
  clear hB0 hT0 hT1 hT2
  refine till_take (i := 0) (v := ?_) rfl (by kernel_rfl) (by kernel_rfl) (by kernel_rfl) (by kernel_rfl) (fun _ _ _ h => h) (Or.inl ⟨by rfl, ?_⟩) hHB ?_
  rotate_left
  · (intro w hSw; (try dsimp only at hSw); go_simp; try with_reducible rfl)
  try simp only [Act.put, List.setIfInBounds_toArray, List.set_cons_zero, List.set_cons_succ]
  refine till_take (i := 1) (v := ?_) rfl (by kernel_rfl) (by kernel_rfl) (by kernel_rfl) (by kernel_rfl) (fun _ _ _ h => h) (Or.inl ⟨by rfl, ?_⟩) hHB ?_
  rotate_left
  · (intro w hSw; (try dsimp only at hSw); go_simp; try with_reducible rfl)
  try simp only [Act.put, List.setIfInBounds_toArray, List.set_cons_zero, List.set_cons_succ]
  refine till_take (i := 2) (v := ?_) rfl (by kernel_rfl) (by kernel_rfl) (by kernel_rfl) (by kernel_rfl) (fun _ _ _ h => h) (Or.inl ⟨by rfl, ?_⟩) hHB ?_
  rotate_left
  · (intro w hSw; (try dsimp only at hSw); go_simp; try with_reducible rfl)
  try simp only [Act.put, List.setIfInBounds_toArray, List.set_cons_zero, List.set_cons_succ]
  refine till_take (i := 3) (v := ?_) rfl (by kernel_rfl) (by kernel_rfl) (by kernel_rfl) (by kernel_rfl) (fun _ _ _ h => h) (Or.inl ⟨by rfl, ?_⟩) hHB ?_
  rotate_left
  · (intro w hSw; (try dsimp only at hSw); go_simp; try with_reducible rfl)
  try simp only [Act.put, List.setIfInBounds_toArray, List.set_cons_zero, List.set_cons_succ]
  refine till_take (i := 4) (v := ?_) rfl (by kernel_rfl) (by kernel_rfl) (by kernel_rfl) (by kernel_rfl) (fun _ _ _ h => h) (Or.inl ⟨by rfl, ?_⟩) hHB ?_
  rotate_left
  · (intro w hSw; (try dsimp only at hSw); go_simp; try with_reducible rfl)
  try simp only [Act.put, List.setIfInBounds_toArray, List.set_cons_zero, List.set_cons_succ]
  refine till_take (i := 5) (v := ?_) rfl (by kernel_rfl) (by kernel_rfl) (by kernel_rfl) (by kernel_rfl) (fun _ _ _ h => h) (Or.inl ⟨by rfl, ?_⟩) hHB ?_
  rotate_left
  · (intro w hSw; (try dsimp only at hSw); go_simp; try with_reducible rfl)
  try simp only [Act.put, List.setIfInBounds_toArray, List.set_cons_zero, List.set_cons_succ]
  clear hHB
  refine till_one (i := 6) (by kernel_rfl) rfl (fun K hK => ?_)
  go_simp
  refine hK.out _ _ (fun h => absurd rfl h) ?_
  clear hK K
  try simp only [Act.put, List.setIfInBounds_toArray, List.set_cons_zero, List.set_cons_succ]
  refine till_done (by kernel_rfl) ?_ _
  clear hrun
  go_wp2_with fail
  go_ret
  exact ⟨rfl, KH.out, HG.out⟩
end Go.Proofs.Ythmkmjoeceghiaa
