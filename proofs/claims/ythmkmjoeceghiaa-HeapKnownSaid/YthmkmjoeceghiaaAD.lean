/- The reference's Out and Many. -/
import Derived.Test.YthmkmjoeceghiaaAC
import Derived.Laws.AppendOwnNone
namespace Go.Proofs.Ythmkmjoeceghiaa
open Go.RowKit Go.Shelf Go.Maps

theorem owns_two {w : World} {base n : Nat} {e : TypeId} {size : Nat} {v : Value} {xs : List Value} (h : w.ownsRow base e size v n xs) : (v = .slice none 0 0 ∧ n = 0) ∨ ∃ g cap, v = .slice (some ⟨g, 0, none⟩) n cap ∧ n ≤ cap ∧ cap ≤ maxLen := by
  rcases h.2 with h1 | ⟨g, cap, cur, h1, _, _, h2, h3, _⟩
  · exact .inl h1
  · exact .inr ⟨g, cap, h1, h2, h3⟩
set_option maxRecDepth 100000 in
set_option maxHeartbeats 1000000 in
theorem rout_any (b0 B : Nat) (S : List Ob) (w : World) (h : Rh w b0 B S) (hl : S.length ≤ 5000000000000) :
    Calls Try.prog 40 #[.pointer (some ⟨B, 0, none⟩)] w fun e W' => ∃ v, e = .returned v ∧ W'.ownsRow w.heap.size 30 3 v S.length (S.flatMap obCells) ∧ Below w.heap.size w W' := by
  obtain ⟨i0, hi, hz0, hz1, hz2⟩ := info_parts info30
  obtain ⟨v, h1, h2⟩ := h.val
  have c0 := h1.cell (i := 0) rfl
  simp at c0
  rcases owns_two h2 with ⟨rfl, hz⟩ | ⟨g, cap, rfl, hc1, hc2⟩
  · obtain rfl : S = [] := List.eq_nil_of_length_eq_zero hz
    clear h h1 h2
    go_enter Try.func40, Try.ntmps40
    go_wp2_with (at_builtin; refine wpList_append_own_none rfl _ _ 37 rfl w.heap.size 30 i0 3 Try.underlying37 hi _ _ _ rfl (World.ownsRow_nil w w.heap.size 30 3) rfl ?_)
    go_ret
    exact ⟨_, rfl, World.ownsRow_nil _ _ _ _, Below.refl _ _⟩
  · have hnews : ∀ j u, (S.flatMap obCells)[j]? = some u → w.cell? ((⟨g, 0, none⟩ : Addr).add j) = some u := fun j u hu => by
      have hadd : (⟨g, 0, none⟩ : Addr).add j = ⟨g, j, none⟩ := by unfold Addr.add; split <;> simp_all
      have hlt3 := (List.getElem?_eq_some_iff.1 hu).1
      rw [ob_len] at hlt3
      rw [hadd]
      exact (h2.cellAt j hlt3).trans hu
    have HN := Lib.hid hnews
    unfold maxLen at hc2
    clear h h1 h2 hnews
    go_enter Try.func40, Try.ntmps40
    go_wp2_with (at_builtin; refine wpList_append_own _ rfl _ _ 37 rfl w.heap.size 30 i0 _ 3 24 Try.underlying37 hi hz0 hz1 hz2 rfl (by omega) _ _ _ rfl (World.ownsRow_nil w w.heap.size 30 3) ⟨g, 0, none⟩ S.length cap (S.flatMap obCells) rfl (ob_len S) HN.out ob_one (by unfold maxLen; omega) (by omega) (Nat.le_refl _) ?_; intro v' w1 hown' hgrow _)
    go_ret
    exact ⟨_, rfl, by simpa using hown', (Below.refl _ w).grown hgrow (Nat.le_refl _) (fun k e => by cases e)⟩
set_option maxRecDepth 100000 in
set_option maxHeartbeats 1000000 in
theorem rmany_any (b0 B : Nat) (S : List Ob) (c : Int) (w : World) (h : Rh w b0 B S) (hl : S.length ≤ 5000000000000) :
    Calls Try.prog 42 #[.pointer (some ⟨B, 0, none⟩), .int .i64 c] w fun e W' => e = .returned (.int .i64 (manyL S c)) ∧ Below w.heap.size w W' := by
  obtain ⟨v, h1, h2⟩ := h.val
  obtain ⟨a, cap, rfl, -, -⟩ := owns_form h2
  have B1 := Lib.hid (h1.cell (i := 0) rfl)
  have O1 := Lib.hid h2
  clear h h1 h2
  go_enter Try.func42, Try.ntmps42
  go_wp2_with fail
  go_loopw [5, 6] (fun nv iv wr => ∃ k : Nat, k ≤ S.length ∧ iv = .int .i64 k ∧ nv = .int .i64 (manyL (S.take k) c) ∧ Below w.heap.size w wr) (fun _ iv _ => S.length - (intOf iv).toNat)
  case atStart => exact ⟨0, Nat.zero_le _, rfl, rfl, Below.refl _ _⟩
  case round =>
    obtain ⟨k, hk, rfl, rfl, hb⟩ := hrel
    have HB := Lib.hid hb
    have c0 := below_cell hb (Nat.le_refl _) B1.out
    simp at c0
    have hml : manyL (S.take k) c ≤ k := by have := manyL_le (S.take k) c; rw [List.length_take] at this; omega
    clear hb
    by_cases hlt : k < S.length
    · obtain ⟨x, hx⟩ : ∃ x, S[k]? = some x := ⟨_, List.getElem?_eq_getElem hlt⟩
      obtain ⟨g, rfl, d0, d1, d2⟩ := ob_cells O1.out hx rfl
      replace d0 := below_cell HB.out (Nat.le_refl _) d0
      have HT := Lib.hid (take_succ hx)
      have i0 : (0 : Int) ≤ (k : Int) := by omega
      have i1 : (k : Int) < (S.length : Int) := by omega
      clear hx d1 d2
      by_cases he : x.1 = c
      · have HM := Lib.hid (show manyL (S.take (k + 1)) c = manyL (S.take k) c + 1 by rw [HT.out, manyL_snoc, if_pos he])
        have hE : (x.1 == c) = true := by simpa using he
        clear he
        go_wp2_with fail
        go_roundw
        case rel => exact ⟨k + 1, by omega, by go_num, by rw [HM.out]; go_num, HB.out⟩
        case measure => simp [intOf]; omega
      · have HM := Lib.hid (show manyL (S.take (k + 1)) c = manyL (S.take k) c by rw [HT.out, manyL_snoc, if_neg he]; rfl)
        have hE : (x.1 == c) = false := by simpa using he
        clear he
        go_wp2_with fail
        go_roundw
        case rel => exact ⟨k + 1, by omega, by go_num, by rw [HM.out], HB.out⟩
        case measure => simp [intOf]; omega
    · obtain rfl : k = S.length := by omega
      have HT := Lib.hid (show S.take S.length = S from List.take_length)
      go_wp2_with fail
      go_ret
      exact ⟨ret1 (by rw [HT.out]), HB.out⟩
end Go.Proofs.Ythmkmjoeceghiaa
