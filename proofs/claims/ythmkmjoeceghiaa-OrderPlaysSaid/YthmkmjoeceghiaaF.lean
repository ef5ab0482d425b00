/- The reference's heap: what it reads. -/
import Derived.Test.YthmkmjoeceghiaaE
import Derived.Laws.OwnMore
import Derived.Laws.AppendOwnNone
import Derived.Deep.AppendLies
namespace Go.Proofs.Ythmkmjoeceghiaa
open Go.RowKit

attribute [local go_sem ↓] Go.wp_at_zero Go.wp_at_succ
theorem owns_of_heap {w w' : World} {base : Nat} {e : TypeId} {size n : Nat} {v : Value} {xs : List Value} (h : w.ownsRow base e size v n xs) (hk : ∀ g, v.ownBlock = some g → w'.heap[g]? = w.heap[g]?) : w'.ownsRow base e size v n xs := by
  refine ⟨h.1, h.2.elim Or.inl fun hx => Or.inr ?_⟩
  revert hx
  rintro ⟨g, cap, cur, rfl, hb, hg, r⟩
  exact ⟨g, cap, cur, rfl, hb, (hk g rfl).trans hg, r⟩
theorem owns_below {w w' : World} {base : Nat} {e : TypeId} {size n : Nat} {v : Value} {xs : List Value} (h : w.ownsRow base e size v n xs) (hb : Below w.heap.size w w') : w'.ownsRow base e size v n xs :=
  owns_of_heap h fun g hg => hb.block g (h.lt g hg).2
theorem owns_mono {w : World} {base base' : Nat} {e : TypeId} {size : Nat} {v : Value} {n : Nat} {xs : List Value} (h : w.ownsRow base e size v n xs) (hb : base' ≤ base) : w.ownsRow base' e size v n xs :=
  ⟨h.1, h.2.elim Or.inl fun ⟨g, cap, cur, h1, h2, r⟩ => Or.inr ⟨g, cap, cur, h1, Nat.le_trans hb h2, r⟩⟩
theorem owns_form {w : World} {base : Nat} {e : TypeId} {size n : Nat} {v : Value} {xs : List Value} (h : w.ownsRow base e size v n xs) : ∃ a cap, v = .slice a n cap ∧ n ≤ cap ∧ cap ≤ maxLen := by
  rcases h.2 with ⟨rfl, rfl⟩ | ⟨g, cap, cur, rfl, _, _, h1, h2, _⟩
  · exact ⟨none, 0, rfl, by omega, by simp [maxLen]⟩
  · exact ⟨_, cap, rfl, h1, h2⟩
theorem own_blk {w : World} {base : Nat} {e t : TypeId} {size n g : Nat} {v : Value} {xs : List Value} {cs : Array Value} (h : w.ownsRow base e size v n xs) (hg : Blk w g cs t) (hne : e ≠ t) : v.ownBlock ≠ some g := by
  rcases h.2 with ⟨rfl, _⟩ | ⟨g', cap, cur, rfl, _, hh, _⟩
  · simp [Value.ownBlock]
  · intro he
    obtain rfl : g' = g := by simpa [Value.ownBlock] using he
    unfold Blk at hg
    rw [hh] at hg
    injection hg with hg
    injection hg with _ ht
    exact hne ht
theorem flatOb_at (l : List Ob) : ∀ (k : Nat) (c : Ob), l[k]? = some c → ∀ j, j < 3 → (l.flatMap obCells)[k * 3 + j]? = (obCells c)[j]? := by
  induction l with
  | nil => intro k c h; simp at h
  | cons x l ih =>
    intro k c h j hj
    have hx : (obCells x).length = 3 := rfl
    rw [List.flatMap_cons]
    cases k with
    | zero =>
      obtain rfl : x = c := by simpa using h
      rw [Nat.zero_mul, Nat.zero_add, List.getElem?_append_left (by omega)]
    | succ k =>
      rw [List.getElem?_append_right (by omega), hx, show (k + 1) * 3 + j - 3 = k * 3 + j by omega]
      exact ih k c (by simpa using h) j hj
/-- an element's three cells -/
theorem ob_cells {w : World} {base n : Nat} {a : Option Addr} {cap : Nat} {l : List Ob} (h : w.ownsRow base 30 3 (.slice a n cap) n (l.flatMap obCells)) {k : Nat} {o : Ob} (hk : l[k]? = some o) (hl : l.length = n) :
    ∃ g, a = some ⟨g, 0, none⟩ ∧ w.cell? ⟨g, k * 3, none⟩ = some (.int .i64 o.1) ∧ w.cell? ⟨g, k * 3 + 1, none⟩ = some (.int .i64 o.2.1) ∧ w.cell? ⟨g, k * 3 + 2, none⟩ = some (.int .i64 o.2.2) := by
  have hkl := (List.getElem?_eq_some_iff.1 hk).1
  obtain ⟨g, c, hv, _, _⟩ := h.form (by omega)
  obtain ⟨rfl, rfl⟩ : a = some ⟨g, 0, none⟩ ∧ cap = c := by injection hv with h1 _ h3; exact ⟨h1, h3⟩
  have at_ : ∀ j, j < 3 → w.cell? ⟨g, k * 3 + j, none⟩ = (obCells o)[j]? := fun j hj => by
    rw [h.cellAt (k * 3 + j) (by omega), flatOb_at l k o hk j hj]
  exact ⟨g, rfl, at_ 0 (by omega), at_ 1 (by omega), at_ 2 (by omega)⟩

/-- the reference's heap at B: S is out -/
structure Rh (w : World) (b0 B : Nat) (S : List Ob) : Prop where
  hB : b0 ≤ B
  val : ∃ v, Blk w B #[v] 96 ∧ w.ownsRow b0 30 3 v S.length (S.flatMap obCells)
theorem Rh.below {w w' : World} {b0 B : Nat} {S : List Ob} (h : Rh w b0 B S) (hb : Below w.heap.size w w') : Rh w' b0 B S := by
  obtain ⟨v, h1, h2⟩ := h.val
  exact ⟨h.hB, v, h1.below hb, owns_below h2 hb⟩

set_option maxRecDepth 100000 in
set_option maxHeartbeats 400000 in
theorem ahead_any (x y : Ob) (w : World) : Calls Try.prog 75 #[obV x, obV y] w fun e w' => e = .returned (.bool (ahead x y)) ∧ Below w.heap.size w w' := by
  obtain ⟨x0, x1, x2⟩ := x
  obtain ⟨y0, y1, y2⟩ := y
  have hal : Below w.heap.size w ((w.alloc (.cells #[.int .i64 x0, .int .i64 x1, .int .i64 x2] 30)).alloc (.cells #[.int .i64 y0, .int .i64 y1, .int .i64 y2] 30)) := (by repeat (first | exact Below.refl _ _ | assumption | refine Below.setCell ?_ (by first | omega | (simp; done) | (simp; omega)) _ | refine Below.drew ?_ | refine Below.alloc ?_ (by first | omega | (simp; done) | (simp; omega)) _ | refine Below.trans ?_ (Below.mono (by assumption) (by first | omega | (simp; done) | (simp; omega)))))
  have HB := Lib.hid hal
  clear hal
  by_cases h0 : x0 = y0
  · by_cases h1 : x1 = y1
    · have hR := Lib.hid (show ahead (x0, x1, x2) (y0, y1, y2) = decide (x2 < y2) by simp [ahead, h0, h1])
      have e0 : (x0 != y0) = false := by simpa using h0
      have e1 : (x1 != y1) = false := by simpa using h1
      clear h0 h1
      go_enter Try.func75, Try.ntmps75
      go_wp2_with fail
      go_ret
      exact ⟨retB hR.out.symm, HB.out⟩
    · have hR := Lib.hid (show ahead (x0, x1, x2) (y0, y1, y2) = decide (x1 < y1) by simp [ahead, h0, h1])
      have e0 : (x0 != y0) = false := by simpa using h0
      have e1 : (x1 != y1) = true := by simpa using h1
      clear h0 h1
      go_enter Try.func75, Try.ntmps75
      go_wp2_with fail
      go_ret
      exact ⟨retB hR.out.symm, HB.out⟩
  · have hR := Lib.hid (show ahead (x0, x1, x2) (y0, y1, y2) = decide (x0 < y0) by simp [ahead, h0])
    have e0 : (x0 != y0) = true := by simpa using h0
    clear h0
    go_enter Try.func75, Try.ntmps75
    go_wp2_with fail
    go_ret
    exact ⟨retB hR.out.symm, HB.out⟩

set_option maxRecDepth 100000 in
set_option maxHeartbeats 400000 in
theorem rhas_any (b0 B : Nat) (S : List Ob) (o : Ob) (w : World) (h : Rh w b0 B S) (hl : S.length < maxLen) :
    Calls Try.prog 41 #[.pointer (some ⟨B, 0, none⟩), obV o] w fun e w' => e = .returned (.bool (decide (o ∈ S))) ∧ Below w.heap.size w w' := by
  have hal : Below w.heap.size w (w.alloc (.cells #[.int .i64 o.1, .int .i64 o.2.1, .int .i64 o.2.2] 30)) := (by repeat (first | exact Below.refl _ _ | assumption | refine Below.setCell ?_ (by first | omega | (simp; done) | (simp; omega)) _ | refine Below.drew ?_ | refine Below.alloc ?_ (by first | omega | (simp; done) | (simp; omega)) _ | refine Below.trans ?_ (Below.mono (by assumption) (by first | omega | (simp; done) | (simp; omega)))))
  obtain ⟨v, h1, h2⟩ := h.val
  obtain ⟨a, cap, rfl, -, -⟩ := owns_form h2
  have T := Blk.new w #[.int .i64 o.1, .int .i64 o.2.1, .int .i64 o.2.2] 30
  have t0 := Lib.hid (T.cell (i := 0) rfl)
  have t1 := Lib.hid (T.cell (i := 1) rfl)
  have t2 := Lib.hid (T.cell (i := 2) rfl)
  have B1 := Lib.hid ((h1.below hal).cell (i := 0) rfl)
  have O1 := Lib.hid (owns_below h2 hal)
  have HW := Lib.hid hal
  have hlm : S.length ≤ 9223372036854775807 := by unfold maxLen at hl; omega
  clear hal h1 h2 T h
  go_enter Try.func41, Try.ntmps41
  go_wp2_with fail
  generalize w.alloc (.cells #[.int .i64 o.1, .int .i64 o.2.1, .int .i64 o.2.2] 30) = W at *
  go_loopw [5] (fun i wr => ∃ k : Nat, k ≤ S.length ∧ i = .int .i64 k ∧ (∀ j x, j < k → S[j]? = some x → x ≠ o) ∧ Below W.heap.size W wr) (fun i _ => S.length - (intOf i).toNat)
  case atStart => exact ⟨0, Nat.zero_le _, rfl, fun j x hj => by omega, Below.refl _ _⟩
  case round =>
    obtain ⟨k, hk, rfl, hN, hb⟩ := hrel
    have NE := Lib.hid hN
    have HB := Lib.hid hb
    have c0 := below_cell hb (Nat.le_refl _) B1.out
    have s0 := below_cell hb (Nat.le_refl _) t0.out
    have s1 := below_cell hb (Nat.le_refl _) t1.out
    have s2 := below_cell hb (Nat.le_refl _) t2.out
    simp at c0 s0 s1 s2
    clear hN hb
    by_cases hlt : k < S.length
    · obtain ⟨x, hx⟩ : ∃ x, S[k]? = some x := ⟨_, List.getElem?_eq_getElem hlt⟩
      obtain ⟨g, rfl, d0, d1, d2⟩ := ob_cells O1.out hx rfl
      replace d0 := below_cell HB.out (Nat.le_refl _) d0
      replace d1 := below_cell HB.out (Nat.le_refl _) d1
      replace d2 := below_cell HB.out (Nat.le_refl _) d2
      have HX := Lib.hid hx
      have i0 : (0 : Int) ≤ (k : Int) := by omega
      have i1 : (k : Int) < (S.length : Int) := by omega
      clear hx
      by_cases hxo : x = o
      · have hq := eql30 (x := x) (y := o) true (by simpa using hxo)
        have hR := Lib.hid (show decide (o ∈ S) = true by rw [decide_eq_true_iff, ← hxo]; exact List.mem_of_getElem? HX.out)
        clear hxo
        go_wp2_with fail
        go_quiet (fail)
        go_wp2_with fail
        go_ret
        exact ⟨retB hR.out.symm, below_drewN (on HW.out HB.out) _⟩
      · have hq := eql30 (x := x) (y := o) false (by simpa using hxo)
        have XO := Lib.hid hxo
        clear hxo
        go_wp2_with fail
        go_quiet (fail)
        go_wp2_with fail
        go_roundw
        case rel => exact ⟨k + 1, by omega, by go_num, fun j y hj hy => (by
          by_cases e : j = k
          · rw [e, HX.out] at hy; cases hy; exact XO.out
          · exact NE.out j y (by omega) hy), below_drewN HB.out _⟩
        case measure => simp [intOf]; omega
    · obtain rfl : k = S.length := by omega
      have hR := Lib.hid (show decide (o ∈ S) = false by
        rw [decide_eq_false_iff_not]; intro h
        obtain ⟨j, hj, hx⟩ := List.getElem_of_mem h
        exact NE.out j o hj (by rw [List.getElem?_eq_getElem hj, hx]) rfl)
      go_wp2_with fail
      go_ret
      exact ⟨retB hR.out.symm, on HW.out HB.out⟩
end Go.Proofs.Ythmkmjoeceghiaa
