/- The walks over a heap's methods: take, bad, nothing, Do. -/
import Derived.Test.YthmkmjoeceghiaaB
namespace Go.Proofs.Ythmkmjoeceghiaa
open Go.RowKit

attribute [local go_sem ↓] Go.wp_at_zero Go.wp_at_succ
set_option maxRecDepth 100000 in
set_option maxHeartbeats 400000 in
theorem take_any (B M n : Nat) (S S' : List Ob) (o : Ob) (w : World) (h : Hp w B M n S) (ho : WfO o) (hS : ∀ x, x ∈ S' ↔ x ∈ S ∧ x ≠ o) :
    Calls Try.prog 47 #[.pointer (some ⟨B, 0, none⟩), obV o] w fun e w' => e = .returned (.bool (decide (o ∈ S))) ∧ Hp w' B M n S' ∧ w.grownBy w' (some M) := by
  have hal : Below w.heap.size w (w.alloc (.cells #[.int .i64 o.1, .int .i64 o.2.1, .int .i64 o.2.2] 30)) := (by repeat (first | exact Below.refl _ _ | assumption | refine Below.setCell ?_ (by first | omega | (simp; done) | (simp; omega)) _ | refine Below.drew ?_ | refine Below.alloc ?_ (by first | omega | (simp; done) | (simp; omega)) _ | refine Below.trans ?_ (Below.mono (by assumption) (by first | omega | (simp; done) | (simp; omega)))))
  have H := Lib.hid (h.below hal)
  have T := Lib.hid (Blk.new w #[.int .i64 o.1, .int .i64 o.2.1, .int .i64 o.2.2] 30)
  have HW := Lib.hid hal
  have HO := Lib.hid ho
  have HS := Lib.hid hS
  have hlt := h.lt
  clear h hal ho hS
  have hT0 := T.out.cell (i := 0) rfl
  have hT1 := T.out.cell (i := 1) rfl
  have hT2 := T.out.cell (i := 2) rfl
  go_enter Try.func47, Try.ntmps47
  go_wp2_with fail
  clear hT0 hT1 hT2
  generalize w.alloc (.cells #[.int .i64 o.1, .int .i64 o.2.1, .int .i64 o.2.2] 30) = W at *
  refine (has_any B M n S o W H.out HO.out).mono ?_
  rintro e w1 ⟨rfl, hb⟩
  replace H := Lib.hid (H.out.below hb)
  replace T := Lib.hid (T.out.below hb)
  replace HW := Lib.hid (on HW.out hb)
  clear hb
  go_wp2_with fail
  have hB0 := H.out.bB.cell (i := 0) rfl
  have hT0 := T.out.cell (i := 0) rfl
  have hT1 := T.out.cell (i := 1) rfl
  have hT2 := T.out.cell (i := 2) rfl
  simp at hB0 hT0 hT1 hT2
  obtain ⟨D, hD, hh⟩ := H.out.map
  obtain ⟨w2, hrun, hD2, htu⟩ := (hD.drew).drop law30 Try.underlying42 (key_of HO.out) 0
  have hne := H.out.ne
  have hg := htu.grown
  have cB : w2.cell? ⟨B, 0, none⟩ = some (.map (some M)) := (World.cell?_of_block (w := w1.drew) (a := ⟨B, 0, none⟩) (hg.block B H.out.bB.lt (by simpa using hne))).trans hB0
  have KK : Hp w2 B M n S' := ⟨(hg.block B H.out.bB.lt (by simpa using hne)).trans H.out.bB, ⟨_, hD2, fun x hx => by
    by_cases e : x = o
    · subst e
      rw [Maps.has_del_same]
      exact (decide_eq_false (fun h => ((HS.out x).1 h).2 rfl)).symm
    · rw [Maps.has_del_other (fun e2 => e (kl_inj hx HO.out e2)), hh x hx, Bool.eq_iff_iff]
      simp only [decide_eq_true_eq]
      exact ⟨fun h => (HS.out x).2 ⟨h, e⟩, fun h => ((HS.out x).1 h).1⟩⟩, fun x hx => H.out.wf x ((HS.out x).1 hx).1⟩
  have KH := Lib.hid KK
  have HG := Lib.hid (grown_trans (grown_of_below HW.out.drew (some M)) hg)
  clear KK hD hh hD2 htu hg cB
  have hHB : (fun w' : World => w'.cell? ⟨B, 0, none⟩ = some (.map (some M)) ∧ w'.cell? ⟨w.heap.size, 0, none⟩ = some (.int .i64 o.1) ∧ w'.cell? ⟨w.heap.size, 1, none⟩ = some (.int .i64 o.2.1) ∧ w'.cell? ⟨w.heap.size, 2, none⟩ = some (.int .i64 o.2.2)) w1.drew := ⟨hB0, hT0, hT1, hT2⟩
  refine till_start 5 (fun w' : World => w'.cell? ⟨B, 0, none⟩ = some (.map (some M)) ∧ w'.cell? ⟨w.heap.size, 0, none⟩ = some (.int .i64 o.1) ∧ w'.cell? ⟨w.heap.size, 1, none⟩ = some (.int .i64 o.2.1) ∧ w'.cell? ⟨w.heap.size, 2, none⟩ = some (.int .i64 o.2.2)) (by kernel_rfl) ?_
  clear hB0 hT0 hT1 hT2
  refine till_take (i := 0) (v := ?_) rfl (by kernel_rfl) (by kernel_rfl) (by kernel_rfl) (by kernel_rfl) (fun _ _ _ h => h) (Or.inl ⟨by rfl, ?_⟩) hHB ?_
  rotate_left
  · (intro w hSw; (try dsimp only at hSw); go_simp; try with_reducible rfl)
  try simp only [Act.put, List.setIfInBounds_toArray, List.set_cons_zero, List.set_cons_succ]
  refine till_take (i := 1) (v := ?_) rfl (by kernel_rfl) (by kernel_rfl) (by kernel_rfl) (by kernel_rfl) (fun _ _ _ h => h) (Or.inl ⟨by rfl, ?_⟩) hHB ?_
  rotate_left
  · (intro w hSw; (try dsimp only at hSw); go_simp; try with_reducible rfl)
  try simp only [Act.put, List.setIfInBounds_toArray, List.set_cons_zero, List.set_cons_succ]
  refine till_take (i := 2) (v := ?_) rfl (by kernel_rfl) (by kernel_rfl) (by kernel_rfl) (by kernel_rfl) (fun _ _ _ h => h) (Or.inl ⟨by rfl, ?_⟩) hHB ?_
  rotate_left
  · (intro w hSw; (try dsimp only at hSw); go_simp; try with_reducible rfl)
  try simp only [Act.put, List.setIfInBounds_toArray, List.set_cons_zero, List.set_cons_succ]
  refine till_take (i := 3) (v := ?_) rfl (by kernel_rfl) (by kernel_rfl) (by kernel_rfl) (by kernel_rfl) (fun _ _ _ h => h) (Or.inl ⟨by rfl, ?_⟩) hHB ?_
  rotate_left
  · (intro w hSw; (try dsimp only at hSw); go_simp; try with_reducible rfl)
  try simp only [Act.put, List.setIfInBounds_toArray, List.set_cons_zero, List.set_cons_succ]
  refine till_take (i := 4) (v := ?_) rfl (by kernel_rfl) (by kernel_rfl) (by kernel_rfl) (by kernel_rfl) (fun _ _ _ h => h) (Or.inl ⟨by rfl, ?_⟩) hHB ?_
  rotate_left
  · (intro w hSw; (try dsimp only at hSw); go_simp; try with_reducible rfl)
  try simp only [Act.put, List.setIfInBounds_toArray, List.set_cons_zero, List.set_cons_succ]
  clear hHB
  refine till_one (i := 5) (by kernel_rfl) rfl (fun K hK => ?_)
  go_simp
  refine hK.out _ _ (fun h => absurd rfl h) ?_
  clear hK K
  try simp only [Act.put, List.setIfInBounds_toArray, List.set_cons_zero, List.set_cons_succ]
  refine till_done (by kernel_rfl) ?_ _
  clear hrun
  go_wp2_with fail
  go_ret
  exact ⟨rfl, KH.out, HG.out⟩

set_option maxHeartbeats 400000 in
theorem nothing_any (p : Value) (o : Ob) (w : World) : Calls Try.prog 46 #[p, obV o] w fun e w' => e = .returned (.bool true) ∧ Below w.heap.size w w' := by
  have hal : Below w.heap.size w (w.alloc (.cells #[.int .i64 o.1, .int .i64 o.2.1, .int .i64 o.2.2] 30)) := (by repeat (first | exact Below.refl _ _ | assumption | refine Below.setCell ?_ (by first | omega | (simp; done) | (simp; omega)) _ | refine Below.drew ?_ | refine Below.alloc ?_ (by first | omega | (simp; done) | (simp; omega)) _ | refine Below.trans ?_ (Below.mono (by assumption) (by first | omega | (simp; done) | (simp; omega)))))
  go_enter Try.func46, Try.ntmps46
  go_wp2_with fail
  go_ret
  exact ⟨rfl, hal⟩
set_option maxHeartbeats 400000 in
theorem bad_any (B M n : Nat) (S : List Ob) (o : Ob) (w : World) (h : Hp w B M n S) (ho : WfO o) :
    Calls Try.prog 48 #[.pointer (some ⟨B, 0, none⟩), obV o] w fun e w' => e = .returned (.bool (!decide (o ∈ S))) ∧ Below w.heap.size w w' := by
  have hal : Below w.heap.size w (w.alloc (.cells #[.int .i64 o.1, .int .i64 o.2.1, .int .i64 o.2.2] 30)) := (by repeat (first | exact Below.refl _ _ | assumption | refine Below.setCell ?_ (by first | omega | (simp; done) | (simp; omega)) _ | refine Below.drew ?_ | refine Below.alloc ?_ (by first | omega | (simp; done) | (simp; omega)) _ | refine Below.trans ?_ (Below.mono (by assumption) (by first | omega | (simp; done) | (simp; omega)))))
  have H := Lib.hid (h.below hal)
  have HW := Lib.hid hal
  have HO := Lib.hid ho
  clear h hal ho
  go_enter Try.func48, Try.ntmps48
  go_wp2_with fail
  refine (has_any B M n S o _ H.out HO.out).mono ?_
  rintro e w1 ⟨rfl, hb⟩
  replace HW := Lib.hid (on HW.out hb)
  clear hb H
  go_wp2_with fail
  go_ret
  exact ⟨rfl, HW.out⟩

theorem cmp30 (x y : Ob) (w : World) : (Op.equalIn 10000 30 (obV x) (obV y)).run Try.prog w = .ok (decide (x = y)) w := by
  have u3 := Try.underlying3
  have hS : Try.prog.underlying 30 = some (.struct (Try.prog.fieldsOf 30)) := by kernel_rfl
  have hp : Try.prog.stoodInHeld 30 = false := by kernel_rfl
  rw [show (10000 : Nat) = 9999 + 1 from rfl, run_equalIn_agg w 9999 30 _ _ hS hp]
  simp only [Program.fieldsOf, Try.underlying30]
  obtain ⟨x0, x1, x2⟩ := x
  obtain ⟨y0, y1, y2⟩ := y
  go_simp
  by_cases h0 : x0 = y0 <;> by_cases h1 : x1 = y1 <;> by_cases h2 : x2 = y2 <;> simp [h0, h1, h2]
theorem neq30 {x y : Ob} (b : Bool) (h : decide (x = y) = !b) (w : World) : (binOp .neq 30 (.agg #[.int .i64 x.1, .int .i64 x.2.1, .int .i64 x.2.2]) (.agg #[.int .i64 y.1, .int .i64 y.2.1, .int .i64 y.2.2])).run Try.prog w = .ok (.bool b) w := by
  rw [run_neq_struct, cmp30 x y w, h]; simp [Result.andThen]
theorem eql30 {x y : Ob} (b : Bool) (h : decide (x = y) = b) (w : World) : (binOp .eql 30 (.agg #[.int .i64 x.1, .int .i64 x.2.1, .int .i64 x.2.2]) (.agg #[.int .i64 y.1, .int .i64 y.2.1, .int .i64 y.2.2])).run Try.prog w = .ok (.bool b) w := by
  rw [run_eql_struct, cmp30 x y w, h]; simp [Result.andThen]
end Go.Proofs.Ythmkmjoeceghiaa
