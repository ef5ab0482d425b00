/- the reference's Less; one; works. -/
import Derived.Test.YtklfocciomngnaaL
import Derived.BigQuiet
import Derived.Deep.QuietTactic
namespace Go.Proofs.Ytklfocciomngnaa
open Go.RowKit Go.Lib

set_option maxRecDepth 100000 in
set_option maxHeartbeats 1000000 in
theorem rless_any (a b : ByteArray) (w : World) (ha : a.size ≤ 35184372088831) (hb : b.size ≤ 35184372088831) : Calls Try.prog 20 #[.string a, .string b] w fun e w' => e = .returned (.bool (lessS a b)) ∧ Below w.heap.size w w' := by
  have HS := Lib.hid (show lessS a b = lessR (fr a) (fr b) from rfl)
  have hla := fr_len a
  have hlb := fr_len b
  have CA := rfolded_any a w ha
  have CB := fun w1 => rfolded_any b w1 hb
  have l1 : (rs a).length = (fr a).length := by simp [fr]
  have l2 : (rs b).length = (fr b).length := by simp [fr]
  rw [l1, show (rs a).map foldR = fr a from rfl] at CA
  rw [l2, show (rs b).map foldR = fr b from rfl] at CB
  clear l1 l2
  generalize fr a = xs at *
  generalize fr b = ys at *
  go_enter Try.func20, Try.ntmps20
  go_wp2_with fail
  refine CA.mono ?_
  rintro e w1 ⟨v, rfl, hv, b1⟩
  obtain ⟨pa, ca, rfl, hI1, -⟩ := isSl_of_owns (α := Int) hv
  obtain ⟨_, _, he1, g1, g2⟩ := owns_form hv
  obtain ⟨-, rfl⟩ : _ ∧ ca = _ := by injection he1 with h1 h2 h3; exact ⟨h1, h3⟩
  have B1 := Lib.hid b1
  have S1 := Lib.hid hI1
  clear hv b1 hI1 he1 CA
  unfold maxLen at g2
  go_wp2_with fail
  refine (CB w1).mono ?_
  rintro e w2 ⟨v, rfl, hv, b2⟩
  obtain ⟨pb, cb, rfl, hI2, -⟩ := isSl_of_owns (α := Int) hv
  obtain ⟨_, _, he1, g3, g4⟩ := owns_form hv
  obtain ⟨-, rfl⟩ : _ ∧ cb = _ := by injection he1 with h1 h2 h3; exact ⟨h1, h3⟩
  have S1' := Lib.hid (S1.out.below b2)
  have B2 := Lib.hid (on B1.out b2)
  have S2 := Lib.hid hI2
  clear hv b2 hI2 he1 CB B1 S1
  unfold maxLen at g4
  go_wp2_with fail
  go_loopw [7] (fun iv wr => ∃ i : Nat, i ≤ xs.length ∧ i ≤ ys.length ∧ iv = .int .i64 i ∧ lessR xs ys = lessR (xs.drop i) (ys.drop i) ∧ Below w2.heap.size w2 wr) (fun iv _ => xs.length - (RowKit.intOf iv).toNat)
  case atStart => exact ⟨0, by omega, by omega, rfl, rfl, Below.refl _ _⟩
  case round =>
    obtain ⟨i, hi, hj, rfl, hc, hb2⟩ := hrel
    replace S1' := Lib.hid (S1'.out.below hb2)
    replace S2 := Lib.hid (S2.out.below hb2)
    have B4 := Lib.hid (on B2.out hb2)
    have BB := Lib.hid hb2
    clear hb2 B2
    by_cases h1 : i < xs.length
    · by_cases h2 : i < ys.length
      · obtain ⟨bx, ox, x, rfl, hx, cx⟩ := S1'.out.at h1
        dsimp only [encR] at cx
        obtain ⟨by', oy, y, rfl, hy, cy⟩ := S2.out.at h2
        dsimp only [encR] at cy
        rw [lessR_at hx hy] at hc
        have j0 : (0 : Int) ≤ (i : Int) := by omega
        have j1 : (i : Int) < (xs.length : Int) := by omega
        have j2 : (i : Int) < (ys.length : Int) := by omega
        clear hx hy
        by_cases a1 : x = y
        · rw [if_pos a1] at hc
          have HC := Lib.hid hc
          have n1 : (x != y) = false := by simpa using a1
          clear hc a1
          go_wp2_with fail
          go_quiet (fail)
          go_wp2_with fail
          go_roundw
          case rel => exact ⟨i + 1, by omega, by omega, by go_num, HC.out, below_drewN BB.out _⟩
          case measure => simp [RowKit.intOf]; omega
        · rw [if_neg a1] at hc
          have HC := Lib.hid hc
          have n1 : (x != y) = true := by simpa using a1
          clear hc a1
          go_wp2_with fail
          go_quiet (fail)
          go_wp2_with fail
          go_quiet (fail)
          go_wp2_with fail
          go_ret
          exact ⟨retB (by rw [HS.out, HC.out]), below_drewN (below_drewN B4.out _) _⟩
      · rw [← cmpL_less (xs.drop i) (ys.drop i), cmpL_r h1 h2] at hc
        rw [← HS.out] at hc
        have HC := Lib.hid hc
        clear hc
        go_wp2_with fail
        go_ret
        exact ⟨retB (by rw [HC.out]; simp; omega), B4.out⟩
    · rw [← cmpL_less (xs.drop i) (ys.drop i)] at hc
      by_cases h2 : i < ys.length
      · rw [cmpL_l h1 h2, ← HS.out] at hc
        have HC := Lib.hid hc
        clear hc
        go_wp2_with fail
        go_ret
        exact ⟨retB (by rw [HC.out]; simp; omega), B4.out⟩
      · rw [cmpL_e h1 h2, ← HS.out] at hc
        have HC := Lib.hid hc
        clear hc
        go_wp2_with fail
        go_ret
        exact ⟨retB (by rw [HC.out]; simp; omega), B4.out⟩
def oneB (a b c : Bool) : Bool := a && !b && !c || !a && b && !c || !a && !b && c
set_option maxRecDepth 100000 in
set_option maxHeartbeats 1000000 in
theorem one_any (a b c : Bool) (w : World) : Calls Try.prog 24 #[.bool a, .bool b, .bool c] w fun e w' => e = .returned (.bool (oneB a b c)) ∧ w = w' := by
  cases a <;> cases b <;> cases c
  all_goals
    go_enter Try.func24, Try.ntmps24
    go_wp2_with fail
    go_ret
    exact ⟨rfl, rfl⟩
end Go.Proofs.Ytklfocciomngnaa
