/- The order of objects, as Out compares them. -/
import Derived.Test.YthmkmjoeceghiaaV
import Derived.Test.YthmkmjoeceghiaaY
import Derived.BigQuiet
namespace Go.Proofs.Ythmkmjoeceghiaa
open Go.RowKit

set_option maxRecDepth 100000 in
set_option maxHeartbeats 400000 in
theorem nan_any (a : Int) (w : World) : Calls Try.prog 72 #[.int .i64 a] w fun e w' => e = .returned (.bool false) ∧ w = w' := by
  go_enter Try.func72, Try.ntmps72
  go_wp2_with fail
  go_ret
  exact ⟨retB (by simp), rfl⟩
set_option maxRecDepth 100000 in
set_option maxHeartbeats 400000 in
theorem compare_any (a b : Int) (w : World) : Calls Try.prog 53 #[.int .i64 a, .int .i64 b] w fun e w' => e = .returned (.int .i64 (Lib.compareInt a b)) ∧ w = w' := by
  go_enter Try.func53, Try.ntmps53
  go_wp2_with fail
  refine (nan_any a w).mono ?_
  rintro e w1 ⟨rfl, rfl⟩
  go_wp2_with fail
  refine (nan_any b w).mono ?_
  rintro e w1 ⟨rfl, rfl⟩
  by_cases h : a < b
  · have HC := Lib.hid (show Lib.compareInt a b = -1 from by unfold Lib.compareInt; rw [if_pos h])
    go_wp2_with fail
    go_ret
    exact ⟨ret1 HC.out.symm, rfl⟩
  · by_cases h2 : b < a
    · have HC := Lib.hid (show Lib.compareInt a b = 1 from by unfold Lib.compareInt; rw [if_neg h, if_pos h2])
      go_wp2_with fail
      go_ret
      exact ⟨ret1 HC.out.symm, rfl⟩
    · have HC := Lib.hid (show Lib.compareInt a b = 0 from by unfold Lib.compareInt; rw [if_neg h, if_neg h2])
      go_wp2_with fail
      go_ret
      exact ⟨ret1 HC.out.symm, rfl⟩
/-- the first that is not zero -/
def or3 (x y z : Int) : Int := if x ≠ 0 then x else if y ≠ 0 then y else z
set_option maxRecDepth 100000 in
set_option maxHeartbeats 1000000 in
theorem or_any (x y z : Int) (g c : Nat) (w : World) (h0 : w.cell? ⟨g, 0, none⟩ = some (.int .i64 x)) (h1 : w.cell? ⟨g, 1, none⟩ = some (.int .i64 y)) (h2 : w.cell? ⟨g, 2, none⟩ = some (.int .i64 z)) :
    Calls Try.prog 52 #[.slice (some ⟨g, 0, none⟩) 3 c] w fun e w' => e = .returned (.int .i64 (or3 x y z)) ∧ w = w' := by
  by_cases hx : x = 0
  · by_cases hy : y = 0
    · by_cases hz : z = 0
      · subst hx hy hz
        go_enter Try.func52, Try.ntmps52
        go_wp2_with fail
        refine wp_loop_rounds 4 ?_
        iterate 4 (rw [rounds_succ]; go_wp2_with fail)
        go_ret
        exact ⟨rfl, rfl⟩
      · have n2 : (z != 0) = true := by simpa using hz
        have HO := Lib.hid (show or3 x y z = z from by simp [or3, hx, hy])
        subst hx hy
        clear hz
        go_enter Try.func52, Try.ntmps52
        go_wp2_with fail
        refine wp_loop_rounds 3 ?_
        iterate 3 (rw [rounds_succ]; go_wp2_with fail)
        go_ret
        exact ⟨ret1 HO.out.symm, rfl⟩
    · have n2 : (y != 0) = true := by simpa using hy
      have HO := Lib.hid (show or3 x y z = y from by simp [or3, hx, hy])
      subst hx
      clear hy
      go_enter Try.func52, Try.ntmps52
      go_wp2_with fail
      refine wp_loop_rounds 2 ?_
      iterate 2 (rw [rounds_succ]; go_wp2_with fail)
      go_ret
      exact ⟨ret1 HO.out.symm, rfl⟩
  · have n2 : (x != 0) = true := by simpa using hx
    have HO := Lib.hid (show or3 x y z = x from by simp [or3, hx])
    clear hx
    go_enter Try.func52, Try.ntmps52
    go_wp2_with fail
    refine wp_loop_rounds 1 ?_
    rw [rounds_succ]; go_wp2_with fail
    go_ret
    exact ⟨ret1 HO.out.symm, rfl⟩
/-- how Out compares two -/
def cmpO (a b : Ob) : Int := or3 (Lib.compareInt a.1 b.1) (Lib.compareInt a.2.1 b.2.1) (Lib.compareInt a.2.2 b.2.2)
theorem cmpO_ahead (a b : Ob) : decide (cmpO a b < 0) = ahead a b := by
  unfold cmpO or3 ahead Lib.compareInt
  by_cases h1 : a.1 < b.1
  · simp [h1]; omega
  · by_cases h2 : b.1 < a.1
    · simp [h1, h2]; omega
    · have e : a.1 = b.1 := by omega
      simp only [e, Int.lt_irrefl, if_false, gt_iff_lt, ne_eq, not_true, not_false_eq_true, if_true]
      by_cases h3 : a.2.1 < b.2.1
      · simp [h3]; omega
      · by_cases h4 : b.2.1 < a.2.1
        · simp [h3, h4]; omega
        · have e2 : a.2.1 = b.2.1 := by omega
          simp only [e2, Int.lt_irrefl, if_false, gt_iff_lt, ne_eq, not_true, not_false_eq_true, if_true]
          by_cases h5 : a.2.2 < b.2.2
          · simp [h5]
          · by_cases h6 : b.2.2 < a.2.2 <;> simp [h5, h6]
end Go.Proofs.Ythmkmjoeceghiaa
