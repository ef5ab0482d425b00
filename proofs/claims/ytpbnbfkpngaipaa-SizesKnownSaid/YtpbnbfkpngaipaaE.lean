/- The walks over SizesSpecs and SizesKnown. -/
import Derived.Test.YtpbnbfkpngaipaaD
namespace Go.Proofs.Ytpbnbfkpngaipaa
open Go.RowKit

theorem tb_8 {k : Nat} (h : k < 10) : tb k % 8 = 0 := by
  refine tb_cases (P := fun k => tb k % 8 = 0) h ?_ ?_ ?_ ?_ ?_ ?_ ?_ ?_ ?_ ?_ <;> decide

set_option maxHeartbeats 1000000 in
theorem specs_any (c a0 a1 a2 : Int) (w : World) (hc : -9223372036854775808 ≤ c ∧ c ≤ 9223372036854775807) :
    Calls Try.prog 5 #[.int .i64 c, .agg #[.int .i64 a0, .int .i64 a1, .int .i64 a2]] w fun e w' => e = .returned (.bool true) ∧ Below w.heap.size w w' := by
  have hx := fun w => bring_any c 10 w (by omega) (by omega) hc.1 hc.2
  have bx : 0 ≤ c % 10 ∧ c % 10 < 10 := by omega
  generalize c % 10 = x at hx bx
  obtain ⟨k, rfl⟩ := Int.eq_ofNat_of_zero_le bx.1
  have hk : k < 10 := by omega
  have hbd := tb_bd k hk
  have t8 := tb_8 hk
  have e1 : (tb k == tb k) = true := by simp
  have sA := fun w => size_in k hk w
  have HW := Below.refl w.heap.size w
  by_cases hm : tb k % 16 = 0
  · have pA := fun w => spec_at k (tb k) 16 4 0 w (s_in hk).1 (p_even hk hm).1 (p_even hk hm).2 (s_in hk).2
    have hm' : ((tb k % 16 : Int) == 0) = true := by simpa using hm
    clear hm t8
    go_enter Try.func5, Try.ntmps5
    go_wp2_with fail
    refine (hx _).mono ?_
    rintro e w1 ⟨rfl, rfl⟩
    go_wp2_with fail
    refine (pA _).mono ?_
    rintro e w2 ⟨rfl, hb2⟩
    obtain ⟨_, _, _, hz2, hb⟩ := new3 hb2
    replace HW := on HW hb; clear hb hb2
    go_wp2_with fail
    refine (hx _).mono ?_
    rintro e w3 ⟨rfl, rfl⟩
    go_wp2_with fail
    refine (sA _).mono ?_
    rintro e w4 ⟨rfl, hb4⟩
    obtain ⟨q0, q1, q2, hz4, hb⟩ := new3 hb4
    replace HW := on HW hb; clear hb hb4
    go_wp2_with fail
    refine (works_any _).mono ?_
    rintro e w5 ⟨rfl, hb⟩; replace HW := on HW hb; clear hb
    go_wp2_with fail
    go_ret
    exact ⟨rfl, HW⟩
  · have pA := fun w => spec_at k (tb k) 8 4 0 w (s_in hk).1 (p_odd hk hm).1 (p_odd hk hm).2 (s_in hk).2
    have hm' : ((tb k % 8 : Int) == 0) = true := by simpa using t8
    clear hm t8
    go_enter Try.func5, Try.ntmps5
    go_wp2_with fail
    refine (hx _).mono ?_
    rintro e w1 ⟨rfl, rfl⟩
    go_wp2_with fail
    refine (pA _).mono ?_
    rintro e w2 ⟨rfl, hb2⟩
    obtain ⟨_, _, _, hz2, hb⟩ := new3 hb2
    replace HW := on HW hb; clear hb hb2
    go_wp2_with fail
    refine (hx _).mono ?_
    rintro e w3 ⟨rfl, rfl⟩
    go_wp2_with fail
    refine (sA _).mono ?_
    rintro e w4 ⟨rfl, hb4⟩
    obtain ⟨q0, q1, q2, hz4, hb⟩ := new3 hb4
    replace HW := on HW hb; clear hb hb4
    go_wp2_with fail
    refine (works_any _).mono ?_
    rintro e w5 ⟨rfl, hb⟩; replace HW := on HW hb; clear hb
    go_wp2_with fail
    go_ret
    exact ⟨rfl, HW⟩

set_option maxHeartbeats 1000000 in
theorem known_any (w : World) : Calls Try.prog 6 #[] w fun e w' => e = .returned (.bool true) ∧ Below w.heap.size w w' := by
  go_enter Try.func6, Try.ntmps6
  go_wp2_with fail
  go_loopw [1] (fun i wr => ∃ n : Int, -3 ≤ n ∧ n ≤ 600 ∧ i = .int .i64 n ∧ Below w.heap.size w wr) (fun i _ => (600 - intOf i).toNat)
  case atStart => exact ⟨-3, by omega, by omega, rfl, Below.refl _ _⟩
  case round =>
    obtain ⟨n, h1, h2, rfl, HW⟩ := hrel
    by_cases hlt : n < 600
    · go_wp2_with fail
      refine (answers_any n _ (by omega)).mono ?_
      rintro e w1 ⟨rfl, hb⟩; replace HW := on HW hb; clear hb
      go_wp2_with fail
      go_roundw
      case rel => exact ⟨n + 1, by omega, by omega, rfl, HW⟩
      case measure => simp [intOf]; omega
    · go_wp2_with fail
      refine (works_any _).mono ?_
      rintro e w1 ⟨rfl, hb⟩; replace HW := on HW hb; clear hb
      go_wp2_with fail
      refine (answers_any _ _ (by omega)).mono ?_
      rintro e w2 ⟨rfl, hb⟩; replace HW := on HW hb; clear hb
      go_wp2_with fail
      refine (answers_any _ _ (by omega)).mono ?_
      rintro e w3 ⟨rfl, hb⟩; replace HW := on HW hb; clear hb
      go_wp2_with fail
      go_ret
      exact ⟨rfl, HW⟩
end Go.Proofs.Ytpbnbfkpngaipaa
