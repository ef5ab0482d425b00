/- The walks over the laws of sizes that ask no reference, and the closed one. -/
import Derived.Test.YtpbnbfkpngaipaaC
namespace Go.Proofs.Ytpbnbfkpngaipaa
open Go.RowKit

theorem cls_tb {c : Nat} (h : c < 10) : cls (tb c) = c := by
  refine tb_cases (P := fun c => cls (tb c) = c) h ?_ ?_ ?_ ?_ ?_ ?_ ?_ ?_ ?_ ?_ <;> decide
theorem cls_under (n : Int) (h : 1 ≤ n) (hc : 0 < cls n) (h5 : n ≤ 512) : tb (cls n - 1) < n ∧ 2 * (tb (cls n) - n) < tb (cls n) := by
  revert hc
  unfold cls
  (repeat' split) <;> (intro hc; simp [tb] at hc ⊢; try omega)

theorem tb_mono {i j : Nat} (h : i ≤ j) (hj : j < 10) : tb i ≤ tb j :=
  (by decide : ∀ i j : Fin 10, i ≤ j → tb i ≤ tb j) ⟨i, by omega⟩ ⟨j, hj⟩ h
theorem cls_mono {m n : Int} (h1 : 1 ≤ m) (h : m ≤ n) (h' : n ≤ 512) : cls m ≤ cls n := by
  rcases Nat.lt_or_ge (cls n) (cls m) with hlt | hge
  · have g1 := cls_fits n h'
    have g2 := (cls_under m h1 (by omega) (by omega)).1
    have g3 := tb_mono (i := cls n) (j := cls m - 1) (by omega) (by have := cls_lt m; omega)
    omega
  · exact hge

theorem class_in (n : Int) (c : Nat) (h : 1 ≤ n) (h' : n ≤ 512) (hc : cls n = c) (w : World) :
    Calls Try.prog 7 #[.int .i64 n] w fun e w' => e = .returned (.tuple #[.int .i64 c, .int .i64 0]) ∧ Below w.heap.size w w' := by
  have := class_any n w
  rw [(c_in h h').1, (c_in h h').2, hc] at this
  exact this

set_option maxHeartbeats 1000000 in
theorem fit_any (a b : Int) (w : World) (ha : -9223372036854775808 ≤ a ∧ a ≤ 9223372036854775807) (hb : -9223372036854775808 ≤ b ∧ b ≤ 9223372036854775807) :
    Calls Try.prog 4 #[.int .i64 a, .int .i64 b] w fun e w' => e = .returned (.bool true) ∧ Below w.heap.size w w' := by
  have hx := fun w => bring_any a 512 w (by omega) (by omega) ha.1 ha.2
  have hy := fun w => bring_any b 512 w (by omega) (by omega) hb.1 hb.2
  have bx : 0 ≤ a % 512 ∧ a % 512 < 512 := by omega
  have b_y : 0 ≤ b % 512 ∧ b % 512 < 512 := by omega
  generalize a % 512 = x at hx bx
  generalize b % 512 = y at hy b_y
  obtain ⟨c, hc⟩ : ∃ c, cls (1 + x) = c := ⟨_, rfl⟩
  obtain ⟨d, hd⟩ : ∃ d, cls (1 + y) = d := ⟨_, rfl⟩
  have hcl : c < 10 := hc ▸ cls_lt _
  have cA := fun w => class_in (1 + x) c (by omega) (by omega) hc w
  have cB := fun w => class_in (1 + y) d (by omega) (by omega) hd w
  have sA := fun w => size_in c hcl w
  have wA := fun w => waste_at (1 + x) (tb c - (1 + x)) w (by rw [w_in (by omega) (by omega), hc])
  have hfit : 1 + x ≤ tb c := hc ▸ cls_fits _ (by omega)
  have htb := tb_bd c hcl
  have cN := fun w => class_in (tb c) c (by omega) (by omega) (cls_tb hcl) w
  have hmono : x ≤ y → c ≤ d := fun h => by have := cls_mono (m := 1 + x) (n := 1 + y) (by omega) (by omega) (by omega); omega
  have hund : 0 < c → tb (c - 1) < 1 + x ∧ 2 * (tb c - (1 + x)) < tb c := fun h => by have := cls_under (1 + x) (by omega) (by omega) (by omega); rw [hc] at this; exact this
  have h8 : c = 0 → tb c = 8 := fun h => by rw [h]; rfl
  have HW := Below.refl w.heap.size w
  clear hc hd
  have n1 : (tb c - (1 + x) != tb c - (1 + x)) = false := by simp
  have e1 : ((c : Int) == c) = true := by simp
  by_cases hc0 : c = 0
  · have h8' : tb c = 8 := h8 hc0
    have h8n : ¬ (8 < tb c) := by omega
    have hc1 : ¬ ((0 : Int) < (c : Int)) := by omega
    clear hund h8 h8' hc0
    by_cases hxy : x ≤ y
    · have hcd := hmono hxy
      clear hmono
      go_enter Try.func4, Try.ntmps4
      go_wp2_with fail
      refine (works_any _).mono ?_
      rintro e w1 ⟨rfl, hb⟩; replace HW := on HW hb; clear hb
      go_wp2_with fail
      refine (hx _).mono ?_
      rintro e w2 ⟨rfl, rfl⟩
      go_wp2_with fail
      refine (hy _).mono ?_
      rintro e w3 ⟨rfl, rfl⟩
      go_wp2_with fail
      refine (cA _).mono ?_
      rintro e w4 ⟨rfl, hb⟩; replace HW := on HW hb; clear hb
      go_wp2_with fail
      refine (cB _).mono ?_
      rintro e w5 ⟨rfl, hb⟩; replace HW := on HW hb; clear hb
      go_wp2_with fail
      refine (sA _).mono ?_
      rintro e w6 ⟨rfl, hb⟩; replace HW := on HW hb; clear hb
      go_wp2_with fail
      refine (wA _).mono ?_
      rintro e w7 ⟨rfl, hb⟩; replace HW := on HW hb; clear hb
      go_wp2_with fail
      refine (cN _).mono ?_
      rintro e w10 ⟨rfl, hb⟩; replace HW := on HW hb; clear hb
      go_wp2_with fail
      go_ret
      exact ⟨rfl, HW⟩
    · clear hmono
      go_enter Try.func4, Try.ntmps4
      go_wp2_with fail
      refine (works_any _).mono ?_
      rintro e w1 ⟨rfl, hb⟩; replace HW := on HW hb; clear hb
      go_wp2_with fail
      refine (hx _).mono ?_
      rintro e w2 ⟨rfl, rfl⟩
      go_wp2_with fail
      refine (hy _).mono ?_
      rintro e w3 ⟨rfl, rfl⟩
      go_wp2_with fail
      refine (cA _).mono ?_
      rintro e w4 ⟨rfl, hb⟩; replace HW := on HW hb; clear hb
      go_wp2_with fail
      refine (cB _).mono ?_
      rintro e w5 ⟨rfl, hb⟩; replace HW := on HW hb; clear hb
      go_wp2_with fail
      refine (sA _).mono ?_
      rintro e w6 ⟨rfl, hb⟩; replace HW := on HW hb; clear hb
      go_wp2_with fail
      refine (wA _).mono ?_
      rintro e w7 ⟨rfl, hb⟩; replace HW := on HW hb; clear hb
      go_wp2_with fail
      refine (cN _).mono ?_
      rintro e w10 ⟨rfl, hb⟩; replace HW := on HW hb; clear hb
      go_wp2_with fail
      go_ret
      exact ⟨rfl, HW⟩
  · obtain ⟨hu1, hu2⟩ := hund (by omega)
    have hc1 : (0 : Int) < (c : Int) := by omega
    have hcm : ((c : Int) - 1) = ((c - 1 : Nat) : Int) := by omega
    have sB := fun w => size_in (c - 1) (by omega) w
    rw [← hcm] at sB
    clear hcm h8 hund
    have h8n : 8 < tb c := by have := tb_mono (i := 1) (j := c) (by omega) hcl; simp [tb] at this ⊢; omega
    by_cases hxy : x ≤ y
    · have hcd := hmono hxy
      clear hmono
      go_enter Try.func4, Try.ntmps4
      go_wp2_with fail
      refine (works_any _).mono ?_
      rintro e w1 ⟨rfl, hb⟩; replace HW := on HW hb; clear hb
      go_wp2_with fail
      refine (hx _).mono ?_
      rintro e w2 ⟨rfl, rfl⟩
      go_wp2_with fail
      refine (hy _).mono ?_
      rintro e w3 ⟨rfl, rfl⟩
      go_wp2_with fail
      refine (cA _).mono ?_
      rintro e w4 ⟨rfl, hb⟩; replace HW := on HW hb; clear hb
      go_wp2_with fail
      refine (cB _).mono ?_
      rintro e w5 ⟨rfl, hb⟩; replace HW := on HW hb; clear hb
      go_wp2_with fail
      refine (sA _).mono ?_
      rintro e w6 ⟨rfl, hb⟩; replace HW := on HW hb; clear hb
      go_wp2_with fail
      refine (wA _).mono ?_
      rintro e w7 ⟨rfl, hb⟩; replace HW := on HW hb; clear hb
      go_wp2_with fail
      refine (wA _).mono ?_
      rintro e w8 ⟨rfl, hb⟩; replace HW := on HW hb; clear hb
      go_wp2_with fail
      refine (sB _).mono ?_
      rintro e w9 ⟨rfl, hb⟩; replace HW := on HW hb; clear hb
      go_wp2_with fail
      refine (cN _).mono ?_
      rintro e w10 ⟨rfl, hb⟩; replace HW := on HW hb; clear hb
      go_wp2_with fail
      go_ret
      exact ⟨rfl, HW⟩
    · clear hmono
      go_enter Try.func4, Try.ntmps4
      go_wp2_with fail
      refine (works_any _).mono ?_
      rintro e w1 ⟨rfl, hb⟩; replace HW := on HW hb; clear hb
      go_wp2_with fail
      refine (hx _).mono ?_
      rintro e w2 ⟨rfl, rfl⟩
      go_wp2_with fail
      refine (hy _).mono ?_
      rintro e w3 ⟨rfl, rfl⟩
      go_wp2_with fail
      refine (cA _).mono ?_
      rintro e w4 ⟨rfl, hb⟩; replace HW := on HW hb; clear hb
      go_wp2_with fail
      refine (cB _).mono ?_
      rintro e w5 ⟨rfl, hb⟩; replace HW := on HW hb; clear hb
      go_wp2_with fail
      refine (sA _).mono ?_
      rintro e w6 ⟨rfl, hb⟩; replace HW := on HW hb; clear hb
      go_wp2_with fail
      refine (wA _).mono ?_
      rintro e w7 ⟨rfl, hb⟩; replace HW := on HW hb; clear hb
      go_wp2_with fail
      refine (wA _).mono ?_
      rintro e w8 ⟨rfl, hb⟩; replace HW := on HW hb; clear hb
      go_wp2_with fail
      refine (sB _).mono ?_
      rintro e w9 ⟨rfl, hb⟩; replace HW := on HW hb; clear hb
      go_wp2_with fail
      refine (cN _).mono ?_
      rintro e w10 ⟨rfl, hb⟩; replace HW := on HW hb; clear hb
      go_wp2_with fail
      go_ret
      exact ⟨rfl, HW⟩
end Go.Proofs.Ytpbnbfkpngaipaa
