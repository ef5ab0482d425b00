/- The walks over package sizes: what each function answers; nothing that was there is written. -/
import Derived.Test.YtpbnbfkpngaipaaRows
import Derived.WalkKit
import Derived.WalkSpells
import Derived.WalkLawsBesides
import Derived.Lib.Hide
import Derived.BigQuiet
import Derived.Lib.QuietBelow
import Derived.Deep.LoopGhost
namespace Go.Proofs.Ytpbnbfkpngaipaa
open Go.RowKit

theorem less_any (a b : Int) (w : World) :
    Calls Try.prog 21 #[.int .i64 a, .int .i64 b] w fun e w' => e = .returned (.bool (decide (a < b))) ∧ w = w' := by
  go_enter Try.func21, Try.ntmps21
  go_wp2
  go_ret
  exact ⟨rfl, rfl⟩

theorem table_any (w : World) :
    Calls Try.prog 17 #[] w fun e w' => e = .returned (.agg #[.int .i64 8, .int .i64 16, .int .i64 32, .int .i64 48, .int .i64 64, .int .i64 96, .int .i64 128, .int .i64 192, .int .i64 256, .int .i64 512]) ∧ w' = w.alloc (.cells #[.int .i64 8, .int .i64 16, .int .i64 32, .int .i64 48, .int .i64 64, .int .i64 96, .int .i64 128, .int .i64 192, .int .i64 256, .int .i64 512] 35) := by
  go_enter Try.func17, Try.ntmps17
  go_wp2
  exact bodyPost_ret (v := .agg #[.int .i64 8, .int .i64 16, .int .i64 32, .int .i64 48, .int .i64 64, .int .i64 96, .int .i64 128, .int .i64 192, .int .i64 256, .int .i64 512]) (by simp [results, Try.results17, go_sem]) rfl ⟨rfl, rfl⟩

theorem all_any (w : World) :
    Calls Try.prog 19 #[] w fun e w' => e = .returned (.slice (some ⟨w.heap.size, 0, none⟩) 10 10) ∧ w' = w.alloc (.cells #[.int .i64 8, .int .i64 16, .int .i64 32, .int .i64 48, .int .i64 64, .int .i64 96, .int .i64 128, .int .i64 192, .int .i64 256, .int .i64 512] 3) := by
  go_enter Try.func19, Try.ntmps19
  go_wp2
  go_ret
  exact ⟨rfl, rfl⟩

/-- the class of n, where it is 1 to 512 -/
def cls (n : Int) : Nat := if n ≤ 8 then 0 else if n ≤ 16 then 1 else if n ≤ 32 then 2 else if n ≤ 48 then 3 else if n ≤ 64 then 4 else if n ≤ 96 then 5 else if n ≤ 128 then 6 else if n ≤ 192 then 7 else if n ≤ 256 then 8 else 9

def tb (i : Nat) : Int := [8, 16, 32, 48, 64, 96, 128, 192, 256, 512].getD i 0

theorem tb_cases {P : Nat → Prop} {i : Nat} (h : i < 10) (h0 : P 0) (h1 : P 1) (h2 : P 2) (h3 : P 3) (h4 : P 4) (h5 : P 5) (h6 : P 6) (h7 : P 7) (h8 : P 8) (h9 : P 9) : P i := by
  have : i = 0 ∨ i = 1 ∨ i = 2 ∨ i = 3 ∨ i = 4 ∨ i = 5 ∨ i = 6 ∨ i = 7 ∨ i = 8 ∨ i = 9 := by omega
  rcases this with rfl | rfl | rfl | rfl | rfl | rfl | rfl | rfl | rfl | rfl <;> assumption

theorem tb_bd (i : Nat) (h : i < 10) : 8 ≤ tb i ∧ tb i ≤ 512 := by
  refine tb_cases (P := fun i => 8 ≤ tb i ∧ tb i ≤ 512) h ?_ ?_ ?_ ?_ ?_ ?_ ?_ ?_ ?_ ?_ <;> (simp [tb])

theorem cls_of (n : Int) (p : Nat) (hp : p < 10) (hlo : p = 0 ∨ tb (p - 1) < n) (hhi : n ≤ tb p) : cls n = p := by
  revert hlo hhi
  refine tb_cases (P := fun p => (p = 0 ∨ tb (p - 1) < n) → n ≤ tb p → cls n = p) hp ?_ ?_ ?_ ?_ ?_ ?_ ?_ ?_ ?_ ?_ <;>
    (intro h1 h2; simp [tb] at h1 h2; unfold cls; repeat (first | rw [if_neg (by omega)] | rw [if_pos (by omega)]))

theorem cls_lt (n : Int) : cls n < 10 := by unfold cls; (repeat' split) <;> decide
theorem cls_fits (n : Int) (h : n ≤ 512) : n ≤ tb (cls n) := by
  unfold cls; (repeat' split) <;> (simp [tb]; omega)

set_option maxHeartbeats 400000 in
theorem search_any (n : Int) (b : Nat) (w : World) (h1 : 1 ≤ n) (h2 : n ≤ 512) (hc : ∀ i : Nat, i < 10 → w.cell? ⟨b, i, none⟩ = some (.int .i64 (tb i))) :
    Calls Try.prog 18 #[.slice (some ⟨b, 0, none⟩) 10 10, .int .i64 n] w fun e w' => e = .returned (.tuple #[.int .i64 (cls n), .bool (decide (tb (cls n) = n))]) ∧ w = w' := by
  go_enter Try.func18, Try.ntmps18
  go_wp2
  go_loop [7, 8] (fun i j => ∃ p q : Nat, p ≤ q ∧ q ≤ 10 ∧ p ≤ 9 ∧ (p = 0 ∨ tb (p - 1) < n) ∧ (q = 10 ∨ n ≤ tb q) ∧ i = .int .i64 p ∧ j = .int .i64 q) (fun i j => ((intOf j) - (intOf i)).toNat)
  case atStart => exact ⟨0, 10, by omega, by omega, by omega, .inl rfl, .inl rfl, rfl, rfl⟩
  case round =>
    obtain ⟨p, q, hpq, hq, hp, hlo, hhi, rfl, rfl⟩ := hrel
    by_cases hlt : p < q
    · have hcell := hc ((p + q) / 2) (by omega)
      have hb := tb_bd ((p + q) / 2) (by omega)
      by_cases ht : tb ((p + q) / 2) < n
      · have hm : (p + q) / 2 ≠ 9 := by intro e; rw [e] at ht; simp [tb] at ht; omega
        clear hlo
        go_wp2_with (go_at_call 21; refine (less_any _ _ _).mono ?_; rintro e w' ⟨rfl, rfl⟩)
        go_round
        case rel => exact ⟨(p + q) / 2 + 1, q, by omega, by omega, by omega, .inr (by simpa using ht), hhi, by go_num, rfl⟩
        case measure => simp [intOf]; omega
      · clear hhi
        go_wp2_with (go_at_call 21; refine (less_any _ _ _).mono ?_; rintro e w' ⟨rfl, rfl⟩)
        go_round
        case rel => exact ⟨p, (p + q) / 2, by omega, by omega, by omega, hlo, .inr (by omega), by go_num, by go_num⟩
        case measure => simp [intOf]; omega
    · obtain rfl : p = q := by omega
      have hcl := cls_of n p (by omega) hlo (hhi.resolve_left (by omega))
      have hcell := hc p (by omega)
      have hpl : p < 10 := by omega
      have HC := Lib.hid hcl
      clear hcl hlo hhi hc
      by_cases he : tb p = n
      · have he' : (tb p == n) = true := by simpa using he
        go_wp2
        go_ret2
        exact ⟨by rw [HC.out]; simp [he], rfl⟩
      · have he' : (tb p == n) = false := by simpa using he
        go_wp2
        go_ret2
        exact ⟨by rw [HC.out]; simp [he], rfl⟩

/-- what Class answers: the class, the error -/
def cA (n : Int) : Int := if n < 1 then 0 else if 512 < n then 0 else cls n
def cE (n : Int) : Int := if n < 1 then 2 else if 512 < n then 9 else 0
theorem c_lo {n : Int} (h : n < 1) : cA n = 0 ∧ cE n = 2 := by simp [cA, cE, h]
theorem c_hi {n : Int} (h : 512 < n) : cA n = 0 ∧ cE n = 9 := by unfold cA cE; rw [if_neg (by omega), if_pos h, if_neg (by omega), if_pos h]; simp
theorem c_in {n : Int} (h : 1 ≤ n) (h' : n ≤ 512) : cA n = cls n ∧ cE n = 0 := by unfold cA cE; rw [if_neg (by omega), if_neg (by omega), if_neg (by omega), if_neg (by omega)]; simp

theorem ret2 {k k' : IntKind} {a b a' b' : Int} (h : a = a') (h' : b = b') : Ending.returned (.tuple #[.int k a, .int k' b]) = .returned (.tuple #[.int k a', .int k' b']) := by rw [h, h']
theorem ret1 {k : IntKind} {a b : Int} (h : a = b) : Ending.returned (.int k a) = .returned (.int k b) := by rw [h]

theorem cells_new (w : World) (t : TypeId) (i : Nat) (h : i < 10) : (w.alloc (.cells #[.int .i64 8, .int .i64 16, .int .i64 32, .int .i64 48, .int .i64 64, .int .i64 96, .int .i64 128, .int .i64 192, .int .i64 256, .int .i64 512] t)).cell? ⟨w.heap.size, i, none⟩ = some (.int .i64 (tb i)) := by
  rw [World.cell?, show (w.alloc _).heap[w.heap.size]? = _ from heap_alloc_new w _]
  refine tb_cases (P := fun i => (if (none : Option Nat).isSome then none else #[Value.int .i64 8, .int .i64 16, .int .i64 32, .int .i64 48, .int .i64 64, .int .i64 96, .int .i64 128, .int .i64 192, .int .i64 256, .int .i64 512][i]?) = some (.int .i64 (tb i))) h ?_ ?_ ?_ ?_ ?_ ?_ ?_ ?_ ?_ ?_ <;> simp [tb]

set_option maxHeartbeats 400000 in
theorem class_any (n : Int) (w : World) :
    Calls Try.prog 7 #[.int .i64 n] w fun e w' => e = .returned (.tuple #[.int .i64 (cA n), .int .i64 (cE n)]) ∧ Below w.heap.size w w' := by
  by_cases c1 : n < 1
  · have hc := Lib.hid (c_lo c1)
    go_enter Try.func7, Try.ntmps7
    go_wp2
    go_ret2
    exact ⟨ret2 hc.out.1.symm hc.out.2.symm, Below.refl _ _⟩
  · by_cases c2 : 512 < n
    · have hc := Lib.hid (c_hi c2)
      go_enter Try.func7, Try.ntmps7
      go_wp2
      go_ret2
      exact ⟨ret2 hc.out.1.symm hc.out.2.symm, Below.refl _ _⟩
    · have hc := Lib.hid (c_in (n := n) (by omega) (by omega))
      go_enter Try.func7, Try.ntmps7
      go_wp2_with fail
      refine (table_any _).mono ?_
      rintro e w' ⟨rfl, rfl⟩
      go_wp2_with fail
      refine (search_any n _ _ (by omega) (by omega) ?_).mono ?_
      · have := cells_new (w.alloc (.cells #[.int .i64 8, .int .i64 16, .int .i64 32, .int .i64 48, .int .i64 64, .int .i64 96, .int .i64 128, .int .i64 192, .int .i64 256, .int .i64 512] 35)) 35
        simpa using this
      rintro e w' ⟨rfl, rfl⟩
      go_wp2_with fail
      go_ret2
      exact ⟨ret2 hc.out.1.symm hc.out.2.symm, (by repeat (first | exact Below.refl _ _ | assumption | refine Below.setCell ?_ (by first | omega | (simp; done) | (simp; omega)) _ | refine Below.drew ?_ | refine Below.alloc ?_ (by first | omega | (simp; done) | (simp; omega)) _ | refine Below.trans ?_ (Below.mono (by assumption) (by first | omega | (simp; done) | (simp; omega)))))⟩

/-- what Size answers -/
def sA (n : Int) : Int := if n < 0 ∨ 9 < n then 0 else tb n.toNat
def sE (n : Int) : Int := if n < 0 ∨ 9 < n then 9 else 0

theorem index_any {w : World} {n : Nat} (h : n < 10) : (Instr.index 35 (.agg #[.int .i64 8, .int .i64 16, .int .i64 32, .int .i64 48, .int .i64 64, .int .i64 96, .int .i64 128, .int .i64 192, .int .i64 256, .int .i64 512]) (.int .i64 n)).run Try.prog w = .ok (.int .i64 (tb n)) w := by
  refine tb_cases (P := fun n => (Instr.index 35 (.agg #[.int .i64 8, .int .i64 16, .int .i64 32, .int .i64 48, .int .i64 64, .int .i64 96, .int .i64 128, .int .i64 192, .int .i64 256, .int .i64 512]) (.int .i64 (n : Nat))).run Try.prog w = .ok (.int .i64 (tb n)) w) h ?_ ?_ ?_ ?_ ?_ ?_ ?_ ?_ ?_ ?_ <;> kernel_rfl

set_option maxHeartbeats 400000 in
theorem size_any (n : Int) (w : World) :
    Calls Try.prog 9 #[.int .i64 n] w fun e w' => e = .returned (.tuple #[.int .i64 (sA n), .int .i64 (sE n)]) ∧ Below w.heap.size w w' := by
  by_cases c1 : n < 0
  · have hc : Hid (sA n = 0 ∧ sE n = 9) := by simp [Hid, sA, sE, c1]
    go_enter Try.func9, Try.ntmps9
    go_wp2
    go_ret2
    exact ⟨ret2 hc.out.1.symm hc.out.2.symm, Below.refl _ _⟩
  · by_cases c2 : 10 ≤ n
    · have hc : Hid (sA n = 0 ∧ sE n = 9) := by unfold Hid sA sE; rw [if_pos (by omega), if_pos (by omega)]; simp
      go_enter Try.func9, Try.ntmps9
      go_wp2
      go_ret2
      exact ⟨ret2 hc.out.1.symm hc.out.2.symm, Below.refl _ _⟩
    · obtain ⟨k, rfl⟩ := Int.eq_ofNat_of_zero_le (show 0 ≤ n by omega)
      have hc : Hid (sA k = tb k ∧ sE k = 0) := by unfold Hid sA sE; rw [if_neg (by omega), if_neg (by omega)]; simp
      have hi := fun w => index_any (w := w) (show k < 10 by omega)
      go_enter Try.func9, Try.ntmps9
      go_wp2_with fail
      refine (table_any _).mono ?_
      rintro e w' ⟨rfl, rfl⟩
      go_wp2_with fail
      go_ret2
      exact ⟨ret2 hc.out.1.symm hc.out.2.symm, (by repeat (first | exact Below.refl _ _ | assumption | refine Below.setCell ?_ (by first | omega | (simp; done) | (simp; omega)) _ | refine Below.drew ?_ | refine Below.alloc ?_ (by first | omega | (simp; done) | (simp; omega)) _ | refine Below.trans ?_ (Below.mono (by assumption) (by first | omega | (simp; done) | (simp; omega)))))⟩

theorem s_in {k : Nat} (h : k < 10) : sA k = tb k ∧ sE k = 0 := by unfold sA sE; rw [if_neg (by omega), if_neg (by omega)]; simp
theorem s_out {n : Int} (h : n < 0 ∨ 9 < n) : sA n = 0 ∧ sE n = 9 := by unfold sA sE; rw [if_pos h, if_pos h]; simp
theorem in_out (n : Int) : (n < 0 ∨ 9 < n) ∨ ∃ k : Nat, n = k ∧ k < 10 := by
  by_cases h : n < 0 ∨ 9 < n
  · exact .inl h
  · exact .inr ⟨n.toNat, by omega, by omega⟩

theorem size_in (k : Nat) (h : k < 10) (w : World) :
    Calls Try.prog 9 #[.int .i64 k] w fun e w' => e = .returned (.tuple #[.int .i64 (tb k), .int .i64 0]) ∧ Below w.heap.size w w' :=
  (size_any k w).mono fun e w' ⟨h1, h2⟩ => ⟨by rw [h1, (s_in h).1, (s_in h).2], h2⟩
theorem size_out (n : Int) (h : n < 0 ∨ 9 < n) (w : World) :
    Calls Try.prog 9 #[.int .i64 n] w fun e w' => e = .returned (.tuple #[.int .i64 0, .int .i64 9]) ∧ Below w.heap.size w w' :=
  (size_any n w).mono fun e w' ⟨h1, h2⟩ => ⟨by rw [h1, (s_out h).1, (s_out h).2], h2⟩

/-- what Spec answers -/
def pA (n : Int) : Int := if n < 0 ∨ 9 < n then 0 else if tb n.toNat % 16 = 0 then 16 else 8
def pF (n : Int) : Int := if n < 0 ∨ 9 < n then 0 else 4
theorem p_out {n : Int} (h : n < 0 ∨ 9 < n) : pA n = 0 ∧ pF n = 0 := by unfold pA pF; rw [if_pos h, if_pos h]; simp
theorem p_even {k : Nat} (h : k < 10) (h' : tb k % 16 = 0) : pA k = 16 ∧ pF k = 4 := by unfold pA pF; rw [if_neg (by omega), if_pos (by simpa using h'), if_neg (by omega)]; simp
theorem p_odd {k : Nat} (h : k < 10) (h' : tb k % 16 ≠ 0) : pA k = 8 ∧ pF k = 4 := by unfold pA pF; rw [if_neg (by omega), if_neg (by simpa using h'), if_neg (by omega)]; simp

theorem retS {a b c d a' b' c' d' : Int} (h1 : a = a') (h2 : b = b') (h3 : c = c') (h4 : d = d') : Ending.returned (.tuple #[.agg #[.int .i64 a, .int .i64 b, .int .i64 c], .int .i64 d]) = .returned (.tuple #[.agg #[.int .i64 a', .int .i64 b', .int .i64 c'], .int .i64 d']) := by rw [h1, h2, h3, h4]

theorem bcell {W w1 : World} (hb : Below W.heap.size W w1) : (∀ b o, b < W.heap.size → w1.cell? ⟨b, o, none⟩ = W.cell? ⟨b, o, none⟩) ∧ (∀ b o, b < W.heap.size → w1.frozen? ⟨b, o, none⟩ = W.frozen? ⟨b, o, none⟩) :=
  ⟨fun b o h => hb.cell (p := ⟨b, o, none⟩) h, fun b o h => hb.frozen (p := ⟨b, o, none⟩) h⟩

set_option maxHeartbeats 400000 in
theorem spec_any (n : Int) (w : World) :
    Calls Try.prog 11 #[.int .i64 n] w fun e w' => e = .returned (.tuple #[.agg #[.int .i64 (sA n), .int .i64 (pA n), .int .i64 (pF n)], .int .i64 (sE n)]) ∧ Below w.heap.size w w' := by
  rcases in_out n with h | ⟨k, rfl, h⟩
  · have hs := Lib.hid (s_out h)
    have hp := Lib.hid (p_out h)
    have hc := fun w => size_out n h w
    clear h
    go_enter Try.func11, Try.ntmps11
    go_wp2_with fail
    refine (hc _).mono ?_
    rintro e w1 ⟨rfl, hb⟩
    have q0 : w1.cell? ⟨w.heap.size, 0, none⟩ = some (.int .i64 0) := by rw [hb.cell (by simp)]; simp
    have q1 : w1.cell? ⟨w.heap.size, 1, none⟩ = some (.int .i64 0) := by rw [hb.cell (by simp)]; simp
    have q2 : w1.cell? ⟨w.heap.size, 2, none⟩ = some (.int .i64 0) := by rw [hb.cell (by simp)]; simp
    have f0 : w1.frozen? ⟨w.heap.size, 0, none⟩ = false := by rw [hb.frozen (by simp)]; simp
    have f1 : w1.frozen? ⟨w.heap.size, 1, none⟩ = false := by rw [hb.frozen (by simp)]; simp
    have f2 : w1.frozen? ⟨w.heap.size, 2, none⟩ = false := by rw [hb.frozen (by simp)]; simp
    have hz : w.heap.size < w1.heap.size := by have := hb.size; simp at this; omega
    go_wp2_with fail
    exact bodyPost_ret (v := .tuple #[.agg #[.int .i64 0, .int .i64 0, .int .i64 0], .int .i64 9]) (by simp [results, Try.results11, go_sem, q0, q1, q2, hz]) rfl ⟨retS hs.out.1.symm hp.out.1.symm hp.out.2.symm hs.out.2.symm, (by repeat (first | exact Below.refl _ _ | assumption | refine Below.setCell ?_ (by first | omega | (simp; done) | (simp; omega)) _ | refine Below.drew ?_ | refine Below.alloc ?_ (by first | omega | (simp; done) | (simp; omega)) _ | refine Below.trans ?_ (Below.mono (by assumption) (by first | omega | (simp; done) | (simp; omega)))))⟩
  · have hs := Lib.hid (s_in h)
    have hc := fun w => size_in k h w
    have hbd := tb_bd k h
    by_cases hm : tb k % 16 = 0
    · have hp := Lib.hid (p_even h hm)
      have hm' : ((tb k % 16 : Int) != 0) = false := by simpa using hm
      clear hm
      go_enter Try.func11, Try.ntmps11
      go_wp2_with fail
      refine (hc _).mono ?_
      rintro e w1 ⟨rfl, hb⟩
      have q0 : w1.cell? ⟨w.heap.size, 0, none⟩ = some (.int .i64 0) := by rw [hb.cell (by simp)]; simp
      have q1 : w1.cell? ⟨w.heap.size, 1, none⟩ = some (.int .i64 0) := by rw [hb.cell (by simp)]; simp
      have q2 : w1.cell? ⟨w.heap.size, 2, none⟩ = some (.int .i64 0) := by rw [hb.cell (by simp)]; simp
      have f0 : w1.frozen? ⟨w.heap.size, 0, none⟩ = false := by rw [hb.frozen (by simp)]; simp
      have f1 : w1.frozen? ⟨w.heap.size, 1, none⟩ = false := by rw [hb.frozen (by simp)]; simp
      have f2 : w1.frozen? ⟨w.heap.size, 2, none⟩ = false := by rw [hb.frozen (by simp)]; simp
      have hz : w.heap.size < w1.heap.size := by have := hb.size; simp at this; omega
      go_wp2_with fail

      exact bodyPost_ret (v := .tuple #[.agg #[.int .i64 (tb k), .int .i64 16, .int .i64 4], .int .i64 0]) (by simp [results, Try.results11, go_sem, q0, q1, q2, hz]) rfl ⟨retS hs.out.1.symm hp.out.1.symm hp.out.2.symm hs.out.2.symm, (by repeat (first | exact Below.refl _ _ | assumption | refine Below.setCell ?_ (by first | omega | (simp; done) | (simp; omega)) _ | refine Below.drew ?_ | refine Below.alloc ?_ (by first | omega | (simp; done) | (simp; omega)) _ | refine Below.trans ?_ (Below.mono (by assumption) (by first | omega | (simp; done) | (simp; omega)))))⟩
    · have hp := Lib.hid (p_odd h hm)
      have hm' : ((tb k % 16 : Int) != 0) = true := by simpa using hm
      clear hm
      go_enter Try.func11, Try.ntmps11
      go_wp2_with fail
      refine (hc _).mono ?_
      rintro e w1 ⟨rfl, hb⟩
      have q0 : w1.cell? ⟨w.heap.size, 0, none⟩ = some (.int .i64 0) := by rw [hb.cell (by simp)]; simp
      have q1 : w1.cell? ⟨w.heap.size, 1, none⟩ = some (.int .i64 0) := by rw [hb.cell (by simp)]; simp
      have q2 : w1.cell? ⟨w.heap.size, 2, none⟩ = some (.int .i64 0) := by rw [hb.cell (by simp)]; simp
      have f0 : w1.frozen? ⟨w.heap.size, 0, none⟩ = false := by rw [hb.frozen (by simp)]; simp
      have f1 : w1.frozen? ⟨w.heap.size, 1, none⟩ = false := by rw [hb.frozen (by simp)]; simp
      have f2 : w1.frozen? ⟨w.heap.size, 2, none⟩ = false := by rw [hb.frozen (by simp)]; simp
      have hz : w.heap.size < w1.heap.size := by have := hb.size; simp at this; omega
      go_wp2_with fail
      exact bodyPost_ret (v := .tuple #[.agg #[.int .i64 (tb k), .int .i64 8, .int .i64 4], .int .i64 0]) (by simp [results, Try.results11, go_sem, q0, q1, q2, hz]) rfl ⟨retS hs.out.1.symm hp.out.1.symm hp.out.2.symm hs.out.2.symm, (by repeat (first | exact Below.refl _ _ | assumption | refine Below.setCell ?_ (by first | omega | (simp; done) | (simp; omega)) _ | refine Below.drew ?_ | refine Below.alloc ?_ (by first | omega | (simp; done) | (simp; omega)) _ | refine Below.trans ?_ (Below.mono (by assumption) (by first | omega | (simp; done) | (simp; omega)))))⟩

/-- what Waste answers -/
def wA (n : Int) : Int := if n < 1 ∨ 512 < n then 0 else tb (cls n) - n
theorem w_out {n : Int} (h : n < 1 ∨ 512 < n) : wA n = 0 ∧ cA n = 0 ∧ cE n ≠ 0 := by
  refine ⟨by unfold wA; rw [if_pos h], ?_⟩
  rcases h with h | h
  · rw [(c_lo h).1, (c_lo h).2]; simp
  · rw [(c_hi h).1, (c_hi h).2]; simp
theorem w_in {n : Int} (h : 1 ≤ n) (h' : n ≤ 512) : wA n = tb (cls n) - n := by unfold wA; rw [if_neg (by omega)]

set_option maxHeartbeats 400000 in
theorem waste_any (n : Int) (w : World) :
    Calls Try.prog 13 #[.int .i64 n] w fun e w' => e = .returned (.int .i64 (wA n)) ∧ Below w.heap.size w w' := by
  by_cases h : n < 1 ∨ 512 < n
  · obtain ⟨h1, h2, h3⟩ := w_out h
    have hh := Lib.hid h1
    have hc := fun w => class_any n w
    rw [h2] at hc
    have h3' : (cE n != 0) = true := by simpa using h3
    clear h h1 h2 h3
    go_enter Try.func13, Try.ntmps13
    go_wp2_with fail
    refine (hc _).mono ?_
    rintro e w1 ⟨rfl, hb⟩
    go_wp2_with fail
    go_ret
    exact ⟨ret1 hh.out.symm, (by repeat (first | exact Below.refl _ _ | assumption | refine Below.setCell ?_ (by first | omega | (simp; done) | (simp; omega)) _ | refine Below.drew ?_ | refine Below.alloc ?_ (by first | omega | (simp; done) | (simp; omega)) _ | refine Below.trans ?_ (Below.mono (by assumption) (by first | omega | (simp; done) | (simp; omega)))))⟩
  · have h1 : 1 ≤ n := by omega
    have h2 : n ≤ 512 := by omega
    have hh := Lib.hid (w_in h1 h2)
    have hc := fun w => class_any n w
    rw [(c_in h1 h2).1, (c_in h1 h2).2] at hc
    have hl := cls_lt n
    have hi := fun w => index_any (w := w) hl
    have hbd := tb_bd _ hl
    clear h
    go_enter Try.func13, Try.ntmps13
    go_wp2_with fail
    refine (hc _).mono ?_
    rintro e w1 ⟨rfl, hb⟩
    have hz := hb.size
    go_wp2_with fail
    refine (table_any _).mono ?_
    rintro e w2 ⟨rfl, rfl⟩
    go_wp2_with fail
    go_ret
    exact ⟨ret1 hh.out.symm, (by repeat (first | exact Below.refl _ _ | assumption | refine Below.setCell ?_ (by first | omega | (simp; done) | (simp; omega)) _ | refine Below.drew ?_ | refine Below.alloc ?_ (by first | omega | (simp; done) | (simp; omega)) _ | refine Below.trans ?_ (Below.mono (by assumption) (by first | omega | (simp; done) | (simp; omega)))))⟩
end Go.Proofs.Ytpbnbfkpngaipaa
