/- TapeKnown. -/
import Derived.Test.YtdjhkiahpidldaaAE
import Derived.Deep.DeepCutAuto
import Derived.BigRegion
namespace Go.Proofs.Ytdjhkiahpidldaa
open Go.RowKit

attribute [local go_sem ↓] Go.wp_at_zero Go.wp_at_succ
section
variable {P : Program} {ops : Array Oper} {Q : Exit → Act → World → Prop} {md : Region.Mode} {B : World → Prop} {s : Nat}
/-- operation i comes up -/
def UpAt (P : Program) (md : Region.Mode) (l : List Oper) (Q : Exit → Act → World → Prop) (B : World → Prop) (s n : Nat) (L : Array Bool) (a : Act) (w : World) (i : Nat) (o : Oper) : Prop :=
  ∀ K' : Act → World → Prop, Shut (∀ a w, (i ≠ s → B w) → wpTill P md l.toArray Q B s n (L.setIfInBounds i true) a w → K' a w) → if Region.wanted o (yielded l.toArray a.tmps) = true then Oper.wp P o a w K' Q else K' (a.put o.dst undef) w
theorem up_step {l : List Oper} {i : Nat} {o : Oper} {n : Nat} {L : Array Bool} {a : Act} {w : World} (ho : nth l i = some o) (h : UpAt P md l Q B s n L a w i o) : wpOp P l.toArray Q i (fun a' w' => (i ≠ s → B w') ∧ wpTill P md l.toArray Q B s n (L.setIfInBounds i true) a' w') a w :=
  wpOp_step (at_nth ho) (fun K' hK => h K' (fun a w h1 h2 => hK a w ⟨h1, h2⟩))
/-- three may come up -/
theorem till_three {l : List Oper} {i j k : Nat} {oi oj ok : Oper} {n : Nat} {L : Array Bool} {a : Act} {w : World} (hr : Region.ready md l.toArray L = [i, j, k]) (hoi : nth l i = some oi) (hoj : nth l j = some oj) (hok : nth l k = some ok)
    (h1 : UpAt P md l Q B s n L a w i oi) (h2 : UpAt P md l Q B s n L a w j oj) (h3 : UpAt P md l Q B s n L a w k ok) : wpTill P md l.toArray Q B s (n + 1) L a w :=
  ⟨fun h0 => (by rw [h0] at hr; cases hr), fun q hq => by
    rw [hr] at hq
    rcases (by simpa using hq : q = i ∨ q = j ∨ q = k) with rfl | rfl | rfl
    · exact up_step hoi h1
    · exact up_step hoj h2
    · exact up_step hok h3⟩
end
theorem full_end {w X : World} {T C P : Nat} (hT : w.heap.size ≤ T) (hC : w.heap.size ≤ C) (hP : w.heap.size ≤ P) (bT : Blk X T #[.int .i64 0, .int .i64 0, .slice none 0 0, .slice none 0 0] 27) (bC : Blk X C (madeCells #[.slice none 0 0] 8) 42) (bP : Blk X P (madeCells #[.int .i64 0] 4096) 3) (hb : Below w.heap.size w X) :
    ∃ T1 gC gP, Value.pointer (some ⟨T, 0, none⟩) = .pointer (some ⟨T1, 0, none⟩) ∧ w.heap.size ≤ T1 ∧ w.heap.size ≤ gC ∧ Blk ((((X.setCell ⟨T, 0, none⟩ (.int .i64 8)).setCell ⟨T, 1, none⟩ (.int .i64 1024)).setCell ⟨T, 2, none⟩ (.slice (some ⟨C, 0, none⟩) 8 8)).setCell ⟨T, 3, none⟩ (.slice (some ⟨P, 0, none⟩) 4096 4096)) T1 #[.int .i64 8, .int .i64 1024, .slice (some ⟨gC, 0, none⟩) 8 8, .slice (some ⟨gP, 0, none⟩) 4096 4096] 27 ∧
      Blk ((((X.setCell ⟨T, 0, none⟩ (.int .i64 8)).setCell ⟨T, 1, none⟩ (.int .i64 1024)).setCell ⟨T, 2, none⟩ (.slice (some ⟨C, 0, none⟩) 8 8)).setCell ⟨T, 3, none⟩ (.slice (some ⟨P, 0, none⟩) 4096 4096)) gC (madeCells #[.slice none 0 0] 8) 42 ∧
      Blk ((((X.setCell ⟨T, 0, none⟩ (.int .i64 8)).setCell ⟨T, 1, none⟩ (.int .i64 1024)).setCell ⟨T, 2, none⟩ (.slice (some ⟨C, 0, none⟩) 8 8)).setCell ⟨T, 3, none⟩ (.slice (some ⟨P, 0, none⟩) 4096 4096)) gP (madeCells #[.int .i64 0] 4096) 3 ∧ w.heap.size ≤ gP ∧
      Below w.heap.size w ((((X.setCell ⟨T, 0, none⟩ (.int .i64 8)).setCell ⟨T, 1, none⟩ (.int .i64 1024)).setCell ⟨T, 2, none⟩ (.slice (some ⟨C, 0, none⟩) 8 8)).setCell ⟨T, 3, none⟩ (.slice (some ⟨P, 0, none⟩) 4096 4096)) := by
  have n1 : C ≠ T := fun e => by subst e; unfold Blk at bT bC; rw [bC] at bT; injection bT with bT; injection bT with _ h; cases h
  have n2 : P ≠ T := fun e => by subst e; unfold Blk at bT bP; rw [bP] at bT; injection bT with bT; injection bT with _ h; cases h
  refine ⟨T, C, P, rfl, hT, hC, ?_, ?_, ?_, hP, ?_⟩
  · exact heap_setCell_same _ _ 3 _ _ _ (heap_setCell_same _ _ 2 _ _ _ (heap_setCell_same _ _ 1 _ _ _ (heap_setCell_same _ _ 0 _ _ _ bT)))
  · exact ((((Below.heap_setCell _ _ _ _ n1).trans (Below.heap_setCell _ _ _ _ n1)).trans (Below.heap_setCell _ _ _ _ n1)).trans (Below.heap_setCell _ _ _ _ n1)).trans bC
  · exact ((((Below.heap_setCell _ _ _ _ n2).trans (Below.heap_setCell _ _ _ _ n2)).trans (Below.heap_setCell _ _ _ _ n2)).trans (Below.heap_setCell _ _ _ _ n2)).trans bP
  · exact (((hb.setCell (p := ⟨T, 0, none⟩) hT _).setCell (p := ⟨T, 1, none⟩) hT _).setCell (p := ⟨T, 2, none⟩) hT _).setCell (p := ⟨T, 3, none⟩) hT _
/-- i lists of the full script are made -/
structure Fl (w : World) (T C P i : Nat) (h : Nat → Nat) (wr : World) : Prop where
  t : Blk wr T #[.int .i64 8, .int .i64 1024, .slice (some ⟨C, 0, none⟩) 8 8, .slice (some ⟨P, 0, none⟩) 4096 4096] 27
  c : wr.rowIs C 42 8 (fun j => if j < i then .slice (some ⟨h j, 0, none⟩) 64 64 else .slice none 0 0)
  k : ∀ j, j < i → Blk wr (h j) (madeCells z4 256) 44
  p : Blk wr P (madeCells #[.int .i64 0] 4096) 3
  below : Below w.heap.size w wr
  wT : w.heap.size ≤ T
  wC : w.heap.size ≤ C
  wP : w.heap.size ≤ P
  wh : ∀ j, j < i → w.heap.size ≤ h j
  inj : ∀ j k, j < i → k < i → h j = h k → j = k
theorem blk_ne {w : World} {g g' : Nat} {cs cs' : Array Value} {t t' : TypeId} (h : Blk w g cs t) (h' : Blk w g' cs' t') (ht : t ≠ t') : g ≠ g' := fun e => by
  subst e; unfold Blk at h h'; rw [h] at h'; injection h' with h'; injection h' with _ h'; exact ht h'
theorem row_blk {w : World} {b : Nat} {t : TypeId} {n : Nat} {f : Nat → Value} (h : w.rowIs b t n f) : ∃ cs, Blk w b cs t := by obtain ⟨c, h1, _⟩ := h; exact ⟨c, h1⟩
theorem Fl.step {w wr : World} {T C P i : Nat} {h : Nat → Nat} (F : Fl w T C P i h wr) (hi : i < 8) :
    Fl w T C P (i + 1) (fun j => if j = i then wr.heap.size else h j) ((wr.alloc (.cells (madeCells z4 256) 44)).setCell ⟨C, i, none⟩ (.slice (some ⟨wr.heap.size, 0, none⟩) 64 64)) := by
  obtain ⟨cc, bC⟩ := row_blk F.c
  have hbs := F.below.size
  have b1 : Below w.heap.size w (wr.alloc (.cells (madeCells z4 256) 44)) := F.below.alloc F.below.size _
  have lt : ∀ j, j < i → h j < wr.heap.size := fun j hj => (F.k j hj).lt
  have hCl := bC.lt
  refine ⟨(F.t.alloc _).setOther (a := ⟨C, i, none⟩) (blk_ne F.t bC (by decide)) _, ?_, fun j hj => ?_, (F.p.alloc _).setOther (a := ⟨C, i, none⟩) (blk_ne F.p bC (by decide)) _, b1.setCell (p := ⟨C, i, none⟩) F.wC _, F.wT, F.wC, F.wP, fun j hj => ?_, fun j k hj hk e => ?_⟩
  · refine ((World.rowIs.alloc F.c _).set i _).congr fun j hj => ?_
    by_cases e : j = i
    · subst e; simp
    · by_cases e2 : j < i
      · simp [e, e2, show j < i + 1 by omega]
      · simp [e, e2, show ¬ j < i + 1 by omega]
  · by_cases e : j = i
    · subst e; simp only [if_true]
      exact (blk_alloc wr _ 44).setOther (a := ⟨C, j, none⟩) (show wr.heap.size ≠ C by omega) _
    · simp only [if_neg e]
      exact ((F.k j (by omega)).alloc _).setOther (a := ⟨C, i, none⟩) (blk_ne (F.k j (by omega)) bC (by decide)) _
  · split
    · exact hbs
    · exact F.wh j (by omega)
  · by_cases e1 : j = i
    · by_cases e2 : k = i
      · omega
      · simp only [if_pos e1, if_neg e2] at e; have := lt k (by omega); omega
    · by_cases e2 : k = i
      · simp only [if_neg e1, if_pos e2] at e; have := lt j (by omega); omega
      · simp only [if_neg e1, if_neg e2] at e; exact F.inj j k (by omega) (by omega) e
def zl (n : Nat) : List Cl := List.replicate n (0, 0, 0, 0)
def lastC : Cl := (13, 255, 65535, 255)
def fullS : Scr := ⟨8, 1024, List.replicate 7 (zl 64) ++ [zl 63 ++ [lastC]], List.replicate 4095 0 ++ [255]⟩
theorem zl_len (n : Nat) : (zl n).length = n := List.length_replicate
theorem zl_get {n k : Nat} {c : Cl} (h : (zl n)[k]? = some c) : k < n ∧ c = (0, 0, 0, 0) := by
  have hk := (List.getElem?_eq_some_iff.1 h).1
  rw [zl_len] at hk
  unfold zl at h
  rw [List.getElem?_replicate, if_pos hk] at h
  exact ⟨hk, (Option.some.inj h).symm⟩
theorem app_get {α : Type} {l : List α} {x c : α} {n k : Nat} (hn : l.length = n) (h : (l ++ [x])[k]? = some c) : (k < n ∧ l[k]? = some c) ∨ (k = n ∧ c = x) := by
  by_cases e : k < l.length
  · rw [List.getElem?_append_left e] at h; exact .inl ⟨by omega, h⟩
  · have hk := (List.getElem?_eq_some_iff.1 h).1
    rw [List.length_append, List.length_singleton] at hk
    obtain rfl : k = l.length := by omega
    rw [List.getElem?_append_right (Nat.le_refl _), Nat.sub_self] at h
    exact .inr ⟨hn, (Option.some.inj h).symm⟩
theorem app_len {α : Type} {l : List α} {x : α} {n : Nat} (hn : l.length = n) : (l ++ [x]).length = n + 1 := by rw [List.length_append, hn]; rfl
theorem rep_get {α : Type} {n k : Nat} {x c : α} (h : (List.replicate n x)[k]? = some c) : k < n ∧ c = x := by
  have hk := (List.getElem?_eq_some_iff.1 h).1
  rw [List.length_replicate] at hk
  rw [List.getElem?_replicate, if_pos hk] at h
  exact ⟨hk, (Option.some.inj h).symm⟩
theorem last_len : (zl 63 ++ [lastC]).length = 64 := app_len (zl_len 63)
theorem full_calls : fullS.calls.length = 8 := app_len List.length_replicate
theorem full_picks : fullS.picks.length = 4096 := app_len List.length_replicate
theorem full_mem {l : List Cl} (h : l ∈ fullS.calls) : l.length = 64 := by
  obtain ⟨k, hk⟩ := List.mem_iff_getElem?.1 h
  rcases app_get (n := 7) List.length_replicate hk with ⟨_, h⟩ | ⟨_, rfl⟩
  · rw [(rep_get h).2]; exact zl_len 64
  · exact last_len
theorem callsV_blk {w : World} {g n m : Nat} (h : Blk w g (madeCells z4 m) 44) (hm : m = n * 4) : CallsV (zl n) (.slice (some ⟨g, 0, none⟩) n n) w := by
  refine ⟨_, n, by rw [zl_len], fun _ => ⟨g, 0, rfl, fun k c hk => ?_⟩, fun h => by cases h⟩
  obtain ⟨hkn, rfl⟩ := zl_get hk
  have at_ : ∀ j, j < 4 → w.cell? ⟨g, 0 + k * 4 + j, none⟩ = some (.int .i64 0) := fun j hj => h.cell (by rw [madeCells_get z4 (by omega), z4_at])
  exact ⟨at_ 0 (by omega), at_ 1 (by omega), at_ 2 (by omega), at_ 3 (by omega)⟩
theorem setIf_get (cs : Array Value) (i j : Nat) (v : Value) (hi : i < cs.size) : (cs.setIfInBounds i v)[j]? = if i = j then some v else cs[j]? := by
  rw [Array.getElem?_setIfInBounds]; simp [hi]
def fullX (h7 P : Nat) (w : World) : World := ((((w.setCell ⟨h7, 252, none⟩ (.int .i64 13)).setCell ⟨h7, 253, none⟩ (.int .i64 255)).setCell ⟨h7, 254, none⟩ (.int .i64 65535)).setCell ⟨h7, 255, none⟩ (.int .i64 255)).setCell ⟨P, 4095, none⟩ (.int .i64 255)
theorem fullX_blk {w : World} {h7 P g : Nat} {cs : Array Value} {t : TypeId} (h : Blk w g cs t) (h1 : g ≠ h7) (h2 : g ≠ P) : Blk (fullX h7 P w) g cs t :=
  ((((h.setOther (a := ⟨h7, 252, none⟩) h1 _).setOther (a := ⟨h7, 253, none⟩) h1 _).setOther (a := ⟨h7, 254, none⟩) h1 _).setOther (a := ⟨h7, 255, none⟩) h1 _).setOther (a := ⟨P, 4095, none⟩) h2 _
theorem mid_blk {w : World} {h7 g : Nat} {cs : Array Value} {t : TypeId} (h : Blk w g cs t) (h1 : g ≠ h7) : Blk ((((w.setCell ⟨h7, 252, none⟩ (.int .i64 13)).setCell ⟨h7, 253, none⟩ (.int .i64 255)).setCell ⟨h7, 254, none⟩ (.int .i64 65535)).setCell ⟨h7, 255, none⟩ (.int .i64 255)) g cs t :=
  (((h.setOther (a := ⟨h7, 252, none⟩) h1 _).setOther (a := ⟨h7, 253, none⟩) h1 _).setOther (a := ⟨h7, 254, none⟩) h1 _).setOther (a := ⟨h7, 255, none⟩) h1 _
theorem full_scr {w wr : World} {T C P : Nat} {h : Nat → Nat} (F : Fl w T C P 8 h wr) :
    ScrV fullS (.agg #[.int .i64 8, .int .i64 1024, .slice (some ⟨C, 0, none⟩) 8 8, .slice (some ⟨P, 0, none⟩) 4096 4096]) (fullX (h 7) P wr) ∧ Below w.heap.size w (fullX (h 7) P wr) ∧
    Blk (fullX (h 7) P wr) T #[.int .i64 8, .int .i64 1024, .slice (some ⟨C, 0, none⟩) 8 8, .slice (some ⟨P, 0, none⟩) 4096 4096] 27 := by
  have k7 := F.k 7 (by decide)
  obtain ⟨cc, bC⟩ := row_blk F.c
  have nP : h 7 ≠ P := blk_ne k7 F.p (by decide)
  have w7 := F.wh 7 (by decide)
  have hb : Below w.heap.size w (fullX (h 7) P wr) := ((((F.below.setCell (p := ⟨h 7, 252, none⟩) w7 _).setCell (p := ⟨h 7, 253, none⟩) w7 _).setCell (p := ⟨h 7, 254, none⟩) w7 _).setCell (p := ⟨h 7, 255, none⟩) w7 _).setCell (p := ⟨P, 4095, none⟩) F.wP _
  have hC : ∀ j, j < 8 → (fullX (h 7) P wr).cell? ⟨C, j, none⟩ = some (.slice (some ⟨h j, 0, none⟩) 64 64) := fun j hj => by
    have h1 := F.c.cell (i := j) hj
    rw [if_pos hj] at h1
    have e : (fullX (h 7) P wr).heap[C]? = wr.heap[C]? := (fullX_blk bC (blk_ne bC k7 (by decide)) (blk_ne bC F.p (by decide))).trans bC.symm
    exact (World.cell?_of_block (w := wr) (a := ⟨C, j, none⟩) e).trans h1
  have b7 : Blk (fullX (h 7) P wr) (h 7) (((((madeCells z4 256).setIfInBounds 252 (.int .i64 13)).setIfInBounds 253 (.int .i64 255)).setIfInBounds 254 (.int .i64 65535)).setIfInBounds 255 (.int .i64 255)) 44 :=
    Blk.setOther (a := ⟨P, 4095, none⟩) (heap_setCell_same _ _ 255 _ _ _ (heap_setCell_same _ _ 254 _ _ _ (heap_setCell_same _ _ 253 _ _ _ (heap_setCell_same _ _ 252 _ _ _ k7)))) nP _
  have bP : Blk (fullX (h 7) P wr) P ((madeCells #[.int .i64 0] 4096).setIfInBounds 4095 (.int .i64 255)) 3 :=
    heap_setCell_same _ _ 4095 _ _ _ ((((F.p.setOther (a := ⟨h 7, 252, none⟩) (Ne.symm nP) _).setOther (a := ⟨h 7, 253, none⟩) (Ne.symm nP) _).setOther (a := ⟨h 7, 254, none⟩) (Ne.symm nP) _).setOther (a := ⟨h 7, 255, none⟩) (Ne.symm nP) _)
  have hsz := size_madeCells z4 256
  have g7 : ∀ j, ((((((madeCells z4 256).setIfInBounds 252 (.int .i64 13)).setIfInBounds 253 (.int .i64 255)).setIfInBounds 254 (.int .i64 65535)).setIfInBounds 255 (.int .i64 255))[j]?) = if 255 = j then some (.int .i64 255) else if 254 = j then some (.int .i64 65535) else if 253 = j then some (.int .i64 255) else if 252 = j then some (.int .i64 13) else (madeCells z4 256)[j]? := fun j => by
    rw [setIf_get _ _ _ _ (by simp [hsz]), setIf_get _ _ _ _ (by simp [hsz]), setIf_get _ _ _ _ (by simp [hsz]), setIf_get _ _ _ _ (by simp [hsz])]
  have gP : ∀ j, (((madeCells #[.int .i64 0] 4096).setIfInBounds 4095 (.int .i64 255))[j]?) = if 4095 = j then some (.int .i64 255) else (madeCells #[.int .i64 0] 4096)[j]? := fun j => setIf_get _ _ _ _ (by rw [size_madeCells]; decide)
  refine ⟨⟨_, _, rfl, .inr ⟨C, 8, by rw [full_calls], fun i l hi => ?_⟩, ⟨some ⟨P, 0, none⟩, 4096, by rw [full_picks], ⟨by rw [full_picks]; decide, fun _ => ⟨P, 0, rfl, fun i x hx => ?_⟩⟩, fun h => by cases h⟩⟩, hb, fullX_blk F.t (blk_ne F.t k7 (by decide)) (blk_ne F.t F.p (by decide))⟩
  · rcases app_get (n := 7) List.length_replicate hi with ⟨hi7, hi⟩ | ⟨rfl, rfl⟩
    · obtain ⟨_, rfl⟩ := rep_get hi
      exact ⟨_, hC i (by omega), callsV_blk (fullX_blk (F.k i (by omega)) (fun e2 => absurd (F.inj i 7 (by omega) (by decide) e2) (by omega)) (blk_ne (F.k i (by omega)) F.p (by decide))) rfl⟩
    · refine ⟨_, hC 7 (by decide), _, 64, by rw [last_len], fun _ => ⟨h 7, 0, rfl, fun k c hk => ?_⟩, fun h => by cases h⟩
      rcases app_get (n := 63) (zl_len 63) hk with ⟨hk63, hk⟩ | ⟨rfl, rfl⟩
      · obtain ⟨_, rfl⟩ := zl_get hk
        have at_ : ∀ j, j < 4 → (fullX (h 7) P wr).cell? ⟨h 7, 0 + k * 4 + j, none⟩ = some (.int .i64 0) := fun j hj => b7.cell (by
          rw [g7, if_neg (by omega), if_neg (by omega), if_neg (by omega), if_neg (by omega), madeCells_get z4 (by omega), z4_at])
        exact ⟨at_ 0 (by omega), at_ 1 (by omega), at_ 2 (by omega), at_ 3 (by omega)⟩
      · exact ⟨b7.cell (by rw [g7]; rfl), b7.cell (by rw [g7]; rfl), b7.cell (by rw [g7]; rfl), b7.cell (by rw [g7]; rfl)⟩
  · rw [Nat.zero_add]
    refine bP.cell ?_
    rw [gP]
    rcases app_get (n := 4095) List.length_replicate hx with ⟨hi, hx⟩ | ⟨rfl, rfl⟩
    · obtain ⟨_, rfl⟩ := rep_get hx
      rw [if_neg (by omega), madeCells_get _ (by omega)]
      simp [Nat.mod_one]
    · rw [if_pos rfl]
theorem full_sz : Sz fullS := ⟨by rw [full_picks]; decide, by rw [full_calls]; decide, fun l hl => by rw [full_mem hl]; decide⟩
theorem full_len : fullS.calls.length ≤ 100 ∧ ∀ l ∈ fullS.calls, l.length ≤ 100 := ⟨by rw [full_calls]; decide, fun l hl => by rw [full_mem hl]; decide⟩
end Go.Proofs.Ytdjhkiahpidldaa
