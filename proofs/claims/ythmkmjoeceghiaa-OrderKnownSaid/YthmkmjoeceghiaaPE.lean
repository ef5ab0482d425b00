/- The reference's Line. -/
import Derived.Test.YthmkmjoeceghiaaPD
import Derived.Test.YthmkmjoeceghiaaPB
namespace Go.Proofs.Ythmkmjoeceghiaa
open Go.RowKit

attribute [local go_sem ↓] Go.wp_at_zero Go.wp_at_succ
theorem info3 : (Try.prog.info? 3).map (fun i => (i.zero, i.size, i.bytes)) = some (some (.int .i64 0), 1, 8) := by kernel_rfl
abbrev encN (k : Nat) : Value := .int .i64 (k : Int)
def lineT (l : List Sp) : Option (List Nat) := lineF l (l.length + 1) [] []
/-- Line's error, and its order -/
def lineE (l : List Sp) : Int := if chk l ≠ 0 then chk l else if (lineT l).isSome = true then 0 else 270
def lineO (l : List Sp) : List Nat := if chk l ≠ 0 then [] else (lineT l).getD []
theorem lineE_bad {l : List Sp} (h : chk l ≠ 0) : lineE l = chk l ∧ lineO l = [] := by unfold lineE lineO; rw [if_pos h, if_pos h]; exact ⟨rfl, rfl⟩
theorem lineE_no {l : List Sp} (h : chk l = 0) (h2 : lineT l = none) : lineE l = 270 ∧ lineO l = [] := by
  simp [lineE, lineO, h, h2]
theorem lineE_yes {l : List Sp} {r : List Nat} (h : chk l = 0) (h2 : lineT l = some r) : lineE l = 0 ∧ lineO l = r := by
  simp [lineE, lineO, h, h2]
theorem lineF_end {l : List Sp} {n : Nat} {out : List Nat} {S : List Ob} (h : urg l out = none) : lineF l (n + 1) out S = some out := by unfold lineF; rw [h]
theorem lineF_stop {l : List Sp} {n : Nat} {out : List Nat} {S : List Ob} {m : Nat} (h : urg l out = some m) (h2 : pick l out S m = none) : lineF l (n + 1) out S = none := by unfold lineF; rw [h]; simp only; rw [h2]
theorem lineF_step {l : List Sp} {n : Nat} {out : List Nat} {S : List Ob} {m k : Nat} (h : urg l out = some m) (h2 : pick l out S m = some k) : lineF l (n + 1) out S = lineF l n (out ++ [k]) (doS S (sp l k).1) := by
  conv => lhs; unfold lineF
  rw [h]; simp only; rw [h2]
/-- the result, as a walk tells it -/
def LineIs (l : List Sp) (w : World) (e : Ending) (w' : World) : Prop :=
  ∃ v, e = .returned (.tuple #[v, .int .i64 (lineE l)]) ∧ w'.ownsRow w.heap.size 3 1 v (lineO l).length ((lineO l).map encN) ∧ Below w.heap.size w w'
theorem lineIs_mk {l : List Sp} {w w' : World} {v : Value} {E : Int} {r : List Nat} (h1 : lineE l = E) (h2 : lineO l = r) (h3 : w'.ownsRow w.heap.size 3 1 v r.length (r.map encN)) (h4 : Below w.heap.size w w') : LineIs l w (.returned (.tuple #[v, .int .i64 E])) w' :=
  ⟨v, by rw [h1], by rw [h2]; exact h3, h4⟩
theorem Rh.keep {w w' : World} {b0 R : Nat} {S : List Ob} {row : Option Nat} (h : Rh w b0 R S) (hg : w.grownBy w' row) (hR : some R ≠ row) (hv : ∀ g, row = some g → ∃ cs t, w.heap[g]? = some (.cells cs t (0, 0)) ∧ t ≠ 30) : Rh w' b0 R S := by
  obtain ⟨v, h1, h2⟩ := h.val
  refine ⟨h.hB, v, (hg.block R h1.lt hR).trans h1, h2.kept hg ?_⟩
  cases row with
  | none =>
    rcases h2.2 with ⟨rfl, _⟩ | ⟨g, cap, cur, rfl, _⟩
    · exact .inl rfl
    · exact .inr (by simp [Value.ownBlock])
  | some g =>
    obtain ⟨cs, t, hh, ht⟩ := hv g rfl
    exact .inr (own_blk h2 (show Blk w g cs t from hh) (Ne.symm ht))
theorem own_cells {w : World} {base : Nat} {e : TypeId} {size n : Nat} {v : Value} {xs : List Value} (h : w.ownsRow base e size v n xs) : ∀ g, v.ownBlock = some g → ∃ cs t, w.heap[g]? = some (.cells cs t (0, 0)) ∧ t = e := by
  intro g hg
  rcases h.2 with ⟨rfl, _⟩ | ⟨g', cap, cur, rfl, _, hh, _⟩
  · cases hg
  · obtain rfl : g' = g := by simpa [Value.ownBlock] using hg
    exact ⟨cur, e, hh, rfl⟩
theorem row_cells {w : World} {b : Nat} {t : TypeId} {n : Nat} {f : Nat → Value} (h : w.rowIs b t n f) : ∃ cs, w.heap[b]? = some (.cells cs t (0, 0)) := by obtain ⟨c, h1, _⟩ := h; exact ⟨c, h1⟩
/-- what stands at the head of Line's loop -/
structure Ls (l : List Sp) (w W : World) (R D : Nat) (v : Value) (out : List Nat) (S : List Ob) (wr : World) : Prop where
  rh : Rh wr R R S
  lf : Left wr D l.length out
  own : wr.ownsRow W.heap.size 3 1 v out.length (out.map encN)
  below : Below w.heap.size w wr
  big : W.heap.size ≤ wr.heap.size
  RW : R < W.heap.size
  DW : D < W.heap.size
  RD : R ≠ D
  wR : w.heap.size ≤ R
  wD : w.heap.size ≤ D
  nd : out.Nodup
  lt : ∀ j ∈ out, j < l.length
  sl : S.length ≤ out.length
  fin : lineF l (l.length + 1 - out.length) out S = lineT l
theorem Ls.below' {l : List Sp} {w W : World} {R D : Nat} {v : Value} {out : List Nat} {S : List Ob} {wr w' : World} (h : Ls l w W R D v out S wr) (hb : Below wr.heap.size wr w') : Ls l w W R D v out S w' :=
  { h with rh := h.rh.below hb, lf := h.lf.below hb, own := owns_below h.own hb, below := on2 h.below hb, big := Nat.le_trans h.big hb.size }
theorem Ls.len {l : List Sp} {w W : World} {R D : Nat} {v : Value} {out : List Nat} {S : List Ob} {wr : World} (h : Ls l w W R D v out S wr) : out.length ≤ l.length := nodup_len _ _ h.nd h.lt
/-- a call is done: behind Do, the mark, the append -/
theorem Ls.step {l : List Sp} {w W : World} {R D : Nat} {v v' : Value} {out : List Nat} {S : List Ob} {wr w1 w2 : World} {m k : Nat} {o : Obj} (h : Ls l w W R D v out S wr) (hu : urg l out = some m) (hp : pick l out S m = some k) (hk : k < l.length) (hko : k ∉ out)
    (hR : Rh w1 R R (doS S (sp l k).1)) (hg : wr.grownBy w1 (some R)) (ho : w2.ownsRow W.heap.size 3 1 v' (out.length + 1) (out.map encN ++ [encN k])) (hg2 : ((w1.setCell ⟨D, k, none⟩ (.bool false)).alloc o).grownBy w2 v.ownBlock) :
    Ls l w W R D v' (out ++ [k]) (doS S (sp l k).1) w2 := by
  have hs := hg.size
  have hv : ∀ g, v.ownBlock = some g → W.heap.size ≤ g := fun g e => (h.own.lt g e).1
  have lf1 : Left w1 D l.length out := World.rowIs.of_block h.lf (hg.block D (World.rowIs.lt h.lf) (by simpa using Ne.symm h.RD))
  have lf2 : Left (w1.setCell ⟨D, k, none⟩ (.bool false)) D l.length (out ++ [k]) := (World.rowIs.set lf1 k (.bool false)).congr fun j hj => by
    by_cases e : j = k
    · subst e; simp
    · simp [e]
  have lf3 := World.rowIs.alloc lf2 o
  have gD := set_grown w1 D k (.bool false)
  have hD1 : D < w1.heap.size := World.rowIs.lt lf1
  have own1 : w1.ownsRow W.heap.size 3 1 v out.length (out.map encN) := h.own.kept hg (.inr fun e => by have := hv R e; have := h.RW; omega)
  have rhD : Rh (w1.setCell ⟨D, k, none⟩ (.bool false)) R R (doS S (sp l k).1) := hR.keep gD (by simpa using h.RD) fun g e => by
    obtain rfl : D = g := by simpa using e
    obtain ⟨cs, hcs⟩ := row_cells lf1
    exact ⟨cs, 4, hcs, by decide⟩
  have rhA : Rh ((w1.setCell ⟨D, k, none⟩ (.bool false)).alloc o) R R (doS S (sp l k).1) := rhD.below ((Below.refl _ _).alloc (Nat.le_refl _) _)
  have ownD : (w1.setCell ⟨D, k, none⟩ (.bool false)).ownsRow W.heap.size 3 1 v out.length (out.map encN) := own1.kept gD (.inr fun e => by have := hv D e; have := h.DW; omega)
  have ownA := ownD.alloc o
  have hsz : ((w1.setCell ⟨D, k, none⟩ (.bool false)).alloc o).heap.size = w1.heap.size + 1 := by simp
  have b1 : Below w.heap.size w w1 := h.below.grown hg h.below.size (fun g e => by cases e; exact h.wR)
  have hbig := h.big
  have hlen := h.len
  have hfin : lineF l (l.length + 1 - (out ++ [k]).length) (out ++ [k]) (doS S (sp l k).1) = lineT l := by
    rw [← h.fin]
    have hn : (out ++ [k]).length ≤ l.length := nodup_len _ _ (List.nodup_append.2 ⟨h.nd, by simp, fun a ha b hb => by
      obtain rfl : b = k := by simpa using hb
      rintro rfl; exact hko ha⟩) (fun j hj => by
      rcases List.mem_append.1 hj with h1 | h1
      · exact h.lt j h1
      · obtain rfl : j = k := by simpa using h1
        exact hk)
    rw [List.length_append, List.length_singleton] at hn ⊢
    rw [show l.length + 1 - out.length = (l.length + 1 - (out.length + 1)) + 1 by omega, lineF_step hu hp]
  refine ⟨rhA.keep hg2 ?_ ?_, World.rowIs.of_block lf3 (hg2.block D (by rw [hsz]; omega) ?_), ?_, ?_, ?_, h.RW, h.DW, h.RD, h.wR, h.wD, ?_, ?_, ?_, hfin⟩
  · intro e; have := hv R e.symm; have := h.RW; omega
  · intro g e
    obtain ⟨cs, t, h1, h2⟩ := own_cells ownA g e
    exact ⟨cs, t, h1, by rw [h2]; decide⟩
  · intro e; have := hv D e.symm; have := h.DW; omega
  · rw [List.length_append, List.length_singleton, List.map_append]; exact ho
  · refine Below.grown ((b1.setCell (p := ⟨D, k, none⟩) h.wD (.bool false)).alloc (by have := b1.size; simp; exact this) o) hg2 (by rw [hsz]; have := b1.size; omega) (fun g e => ?_)
    have := hv g e; have := h.RW; have := h.wR; omega
  · have := hg2.size; rw [hsz] at this; omega
  · refine List.nodup_append.2 ⟨h.nd, by simp, fun a ha b hb => ?_⟩
    obtain rfl : b = k := by simpa using hb
    rintro rfl; exact hko ha
  · intro j hj
    rcases List.mem_append.1 hj with h1 | h1
    · exact h.lt j h1
    · obtain rfl : j = k := by simpa using h1
      exact hk
  · have := len_doS S (sp l k).1
    have := h.sl
    simp; omega
theorem Ls.ownS {l : List Sp} {w W : World} {R D : Nat} {v : Value} {out : List Nat} {S : List Ob} {wr w1 : World} (h : Ls l w W R D v out S wr) (hg : wr.grownBy w1 (some R)) (k : Nat) : (w1.setCell ⟨D, k, none⟩ (.bool false)).ownsRow W.heap.size 3 1 v out.length (out.map encN) := by
  have hv : ∀ g, v.ownBlock = some g → W.heap.size ≤ g := fun g e => (h.own.lt g e).1
  exact (h.own.kept hg (.inr fun e => by have := hv R e; have := h.RW; omega)).kept (set_grown w1 D k (.bool false)) (.inr fun e => by have := hv D e; have := h.DW; omega)
end Go.Proofs.Ythmkmjoeceghiaa
