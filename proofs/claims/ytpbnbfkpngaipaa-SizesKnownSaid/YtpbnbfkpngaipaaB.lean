/- The walks over the reference of sizes: each answers what the program's function answers. -/
import Derived.Test.YtpbnbfkpngaipaaA
namespace Go.Proofs.Ytpbnbfkpngaipaa
open Go.RowKit

set_option maxHeartbeats 400000 in
theorem rclass_any (n : Int) (w : World) (hn : n ≤ 9223372036854775807) :
    Calls Try.prog 8 #[.int .i64 n] w fun e w' => e = .returned (.tuple #[.int .i64 (cA n), .int .i64 (cE n)]) ∧ Below w.heap.size w w' := by
  by_cases c1 : n < 1
  · have hc := Lib.hid (c_lo c1)
    go_enter Try.func8, Try.ntmps8
    go_wp2
    go_ret2
    exact ⟨ret2 hc.out.1.symm hc.out.2.symm, Below.refl _ _⟩
  · go_enter Try.func8, Try.ntmps8
    go_wp2_with fail
    refine (all_any _).mono ?_
    rintro e w1 ⟨rfl, rfl⟩
    go_wp2_with fail
    go_loop [5] (fun i => ∃ k : Nat, k ≤ 10 ∧ i = .int .i64 k ∧ (k = 0 ∨ tb (k - 1) < n)) (fun i => 10 - (intOf i).toNat)
    case atStart => exact ⟨0, by omega, rfl, .inl rfl⟩
    case round =>
      obtain ⟨k, hk, rfl, hlo⟩ := hrel
      by_cases hlt : k < 10
      · have hcell := cells_new w 3 k hlt
        have hbd := tb_bd k hlt
        by_cases hle : n ≤ tb k
        · have hh : Hid (cA n = k ∧ cE n = 0) := by
            have h5 : n ≤ 512 := by omega
            obtain ⟨g1, g2⟩ := c_in (by omega) h5
            exact ⟨by rw [g1, cls_of n k hlt hlo hle], g2⟩
          clear hlo
          go_wp2_with fail
          go_ret2
          exact ⟨ret2 hh.out.1.symm hh.out.2.symm, (by repeat (first | exact Below.refl _ _ | assumption | refine Below.setCell ?_ (by first | omega | (simp; done) | (simp; omega)) _ | refine Below.drew ?_ | refine Below.alloc ?_ (by first | omega | (simp; done) | (simp; omega)) _ | refine Below.trans ?_ (Below.mono (by assumption) (by first | omega | (simp; done) | (simp; omega)))))⟩
        · clear hlo
          go_wp2_with fail
          go_round
          case rel => exact ⟨k + 1, by omega, by go_num, .inr (by simp; omega)⟩
          case measure => simp [intOf]; omega
      · obtain rfl : k = 10 := by omega
        have hh : Hid (cA n = 0 ∧ cE n = 9) := c_hi (by simp [tb] at hlo; omega)
        clear hlo
        go_wp2_with fail
        go_ret2
        exact ⟨ret2 hh.out.1.symm hh.out.2.symm, (by repeat (first | exact Below.refl _ _ | assumption | refine Below.setCell ?_ (by first | omega | (simp; done) | (simp; omega)) _ | refine Below.drew ?_ | refine Below.alloc ?_ (by first | omega | (simp; done) | (simp; omega)) _ | refine Below.trans ?_ (Below.mono (by assumption) (by first | omega | (simp; done) | (simp; omega)))))⟩

set_option maxHeartbeats 400000 in
theorem rsize_any (n : Int) (w : World) :
    Calls Try.prog 10 #[.int .i64 n] w fun e w' => e = .returned (.tuple #[.int .i64 (sA n), .int .i64 (sE n)]) ∧ Below w.heap.size w w' := by
  rcases in_out n with h | ⟨k, rfl, h⟩
  · have hs := Lib.hid (s_out h)
    rcases h with h | h
    · go_enter Try.func10, Try.ntmps10
      go_wp2_with fail
      refine (all_any _).mono ?_
      rintro e w1 ⟨rfl, rfl⟩
      go_wp2_with fail
      go_ret2
      exact ⟨ret2 hs.out.1.symm hs.out.2.symm, (by repeat (first | exact Below.refl _ _ | assumption | refine Below.setCell ?_ (by first | omega | (simp; done) | (simp; omega)) _ | refine Below.drew ?_ | refine Below.alloc ?_ (by first | omega | (simp; done) | (simp; omega)) _ | refine Below.trans ?_ (Below.mono (by assumption) (by first | omega | (simp; done) | (simp; omega)))))⟩
    · go_enter Try.func10, Try.ntmps10
      go_wp2_with fail
      refine (all_any _).mono ?_
      rintro e w1 ⟨rfl, rfl⟩
      go_wp2_with fail
      go_ret2
      exact ⟨ret2 hs.out.1.symm hs.out.2.symm, (by repeat (first | exact Below.refl _ _ | assumption | refine Below.setCell ?_ (by first | omega | (simp; done) | (simp; omega)) _ | refine Below.drew ?_ | refine Below.alloc ?_ (by first | omega | (simp; done) | (simp; omega)) _ | refine Below.trans ?_ (Below.mono (by assumption) (by first | omega | (simp; done) | (simp; omega)))))⟩
  · have hs := Lib.hid (s_in h)
    have hcell := cells_new w 3 k h
    go_enter Try.func10, Try.ntmps10
    go_wp2_with fail
    refine (all_any _).mono ?_
    rintro e w1 ⟨rfl, rfl⟩
    go_wp2_with fail
    go_ret2
    exact ⟨ret2 hs.out.1.symm hs.out.2.symm, (by repeat (first | exact Below.refl _ _ | assumption | refine Below.setCell ?_ (by first | omega | (simp; done) | (simp; omega)) _ | refine Below.drew ?_ | refine Below.alloc ?_ (by first | omega | (simp; done) | (simp; omega)) _ | refine Below.trans ?_ (Below.mono (by assumption) (by first | omega | (simp; done) | (simp; omega)))))⟩

theorem rsize_in (k : Nat) (h : k < 10) (w : World) :
    Calls Try.prog 10 #[.int .i64 k] w fun e w' => e = .returned (.tuple #[.int .i64 (tb k), .int .i64 0]) ∧ Below w.heap.size w w' :=
  (rsize_any k w).mono fun e w' ⟨h1, h2⟩ => ⟨by rw [h1, (s_in h).1, (s_in h).2], h2⟩
theorem rsize_out (n : Int) (h : n < 0 ∨ 9 < n) (w : World) :
    Calls Try.prog 10 #[.int .i64 n] w fun e w' => e = .returned (.tuple #[.int .i64 0, .int .i64 9]) ∧ Below w.heap.size w w' :=
  (rsize_any n w).mono fun e w' ⟨h1, h2⟩ => ⟨by rw [h1, (s_out h).1, (s_out h).2], h2⟩

set_option maxHeartbeats 400000 in
theorem rspec_any (n : Int) (w : World) :
    Calls Try.prog 12 #[.int .i64 n] w fun e w' => e = .returned (.tuple #[.agg #[.int .i64 (sA n), .int .i64 (pA n), .int .i64 (pF n)], .int .i64 (sE n)]) ∧ Below w.heap.size w w' := by
  rcases in_out n with h | ⟨k, rfl, h⟩
  · have hs := Lib.hid (s_out h)
    have hp := Lib.hid (p_out h)
    have hc := fun w => rsize_out n h w
    clear h
    go_enter Try.func12, Try.ntmps12
    go_wp2_with fail
    refine (hc _).mono ?_
    rintro e w1 ⟨rfl, hb⟩
    have q0 : w1.cell? ⟨w.heap.size, 0, none⟩ = some (.int .i64 0) := by rw [hb.cell (by simp)]; simp
    have q1 : w1.cell? ⟨w.heap.size, 1, none⟩ = some (.int .i64 0) := by rw [hb.cell (by simp)]; simp
    have q2 : w1.cell? ⟨w.heap.size, 2, none⟩ = some (.int .i64 0) := by rw [hb.cell (by simp)]; simp
    have f0 : w1.frozen? ⟨w.heap.size, 0, none⟩ = false := by rw [hb.frozen (by simp)]; simp
    have f1 : w1.frozen? ⟨w.heap.size, 1, none⟩ = false := by rw [hb.frozen (by simp)]; simp
    have f2 : w1.frozen? ⟨w.heap.size, 2, none⟩ = false := by rw [hb.frozen (by simp)]; simp
    have hz : w.heap.size < w1.heap.size := by have := hb.size; simp at this; omega
    go_wp2_with fail
    exact bodyPost_ret (v := .tuple #[.agg #[.int .i64 0, .int .i64 0, .int .i64 0], .int .i64 9]) (by simp [results, Try.results12, go_sem, q0, q1, q2, hz]) rfl ⟨retS hs.out.1.symm hp.out.1.symm hp.out.2.symm hs.out.2.symm, (by repeat (first | exact Below.refl _ _ | assumption | refine Below.setCell ?_ (by first | omega | (simp; done) | (simp; omega)) _ | refine Below.drew ?_ | refine Below.alloc ?_ (by first | omega | (simp; done) | (simp; omega)) _ | refine Below.trans ?_ (Below.mono (by assumption) (by first | omega | (simp; done) | (simp; omega)))))⟩
  · have hs := Lib.hid (s_in h)
    have hc := fun w => rsize_in k h w
    have hbd := tb_bd k h
    by_cases hm : tb k % 16 = 0
    · have hp := Lib.hid (p_even h hm)
      have hm' : ((tb k % 16 : Int) == 0) = true := by simpa using hm
      clear hm
      go_enter Try.func12, Try.ntmps12
      go_wp2_with fail
      refine (hc _).mono ?_
      rintro e w1 ⟨rfl, hb⟩
      have q0 : w1.cell? ⟨w.heap.size, 0, none⟩ = some (.int .i64 0) := by rw [hb.cell (by simp)]; simp
      have q1 : w1.cell? ⟨w.heap.size, 1, none⟩ = some (.int .i64 0) := by rw [hb.cell (by simp)]; simp
      have q2 : w1.cell? ⟨w.heap.size, 2, none⟩ = some (.int .i64 0) := by rw [hb.cell (by simp)]; simp
      have f0 : w1.frozen? ⟨w.heap.size, 0, none⟩ = false := by rw [hb.frozen (by simp)]; simp
      have f1 : w1.frozen? ⟨w.heap.size, 1, none⟩ = false := by rw [hb.frozen (by simp)]; simp
      have f2 : w1.frozen? ⟨w.heap.size, 2, none⟩ = false := by rw [hb.frozen (by simp)]; simp
      have hz : w.heap.size < w1.heap.size := by have := hb.size; simp at this; omega
      go_wp2_with fail
      exact bodyPost_ret (v := .tuple #[.agg #[.int .i64 (tb k), .int .i64 16, .int .i64 4], .int .i64 0]) (by simp [results, Try.results12, go_sem, q0, q1, q2, hz]) rfl ⟨retS hs.out.1.symm hp.out.1.symm hp.out.2.symm hs.out.2.symm, (by repeat (first | exact Below.refl _ _ | assumption | refine Below.setCell ?_ (by first | omega | (simp; done) | (simp; omega)) _ | refine Below.drew ?_ | refine Below.alloc ?_ (by first | omega | (simp; done) | (simp; omega)) _ | refine Below.trans ?_ (Below.mono (by assumption) (by first | omega | (simp; done) | (simp; omega)))))⟩
    · have hp := Lib.hid (p_odd h hm)
      have hm' : ((tb k % 16 : Int) == 0) = false := by simpa using hm
      clear hm
      go_enter Try.func12, Try.ntmps12
      go_wp2_with fail
      refine (hc _).mono ?_
      rintro e w1 ⟨rfl, hb⟩
      have q0 : w1.cell? ⟨w.heap.size, 0, none⟩ = some (.int .i64 0) := by rw [hb.cell (by simp)]; simp
      have q1 : w1.cell? ⟨w.heap.size, 1, none⟩ = some (.int .i64 0) := by rw [hb.cell (by simp)]; simp
      have q2 : w1.cell? ⟨w.heap.size, 2, none⟩ = some (.int .i64 0) := by rw [hb.cell (by simp)]; simp
      have f0 : w1.frozen? ⟨w.heap.size, 0, none⟩ = false := by rw [hb.frozen (by simp)]; simp
      have f1 : w1.frozen? ⟨w.heap.size, 1, none⟩ = false := by rw [hb.frozen (by simp)]; simp
      have f2 : w1.frozen? ⟨w.heap.size, 2, none⟩ = false := by rw [hb.frozen (by simp)]; simp
      have hz : w.heap.size < w1.heap.size := by have := hb.size; simp at this; omega
      go_wp2_with fail
      exact bodyPost_ret (v := .tuple #[.agg #[.int .i64 (tb k), .int .i64 8, .int .i64 4], .int .i64 0]) (by simp [results, Try.results12, go_sem, q0, q1, q2, hz]) rfl ⟨retS hs.out.1.symm hp.out.1.symm hp.out.2.symm hs.out.2.symm, (by repeat (first | exact Below.refl _ _ | assumption | refine Below.setCell ?_ (by first | omega | (simp; done) | (simp; omega)) _ | refine Below.drew ?_ | refine Below.alloc ?_ (by first | omega | (simp; done) | (simp; omega)) _ | refine Below.trans ?_ (Below.mono (by assumption) (by first | omega | (simp; done) | (simp; omega)))))⟩

set_option maxHeartbeats 400000 in
theorem rwaste_any (n : Int) (w : World) (hn : n ≤ 9223372036854775807) :
    Calls Try.prog 14 #[.int .i64 n] w fun e w' => e = .returned (.int .i64 (wA n)) ∧ Below w.heap.size w w' := by
  by_cases h : n < 1 ∨ 512 < n
  · obtain ⟨h1, h2, h3⟩ := w_out h
    have hh := Lib.hid h1
    have hc := fun w => rclass_any n w hn
    rw [h2] at hc
    have h3' : (cE n != 0) = true := by simpa using h3
    clear h h1 h2 h3
    go_enter Try.func14, Try.ntmps14
    go_wp2_with fail
    refine (hc _).mono ?_
    rintro e w1 ⟨rfl, hb⟩
    go_wp2_with fail
    go_ret
    exact ⟨ret1 hh.out.symm, (by repeat (first | exact Below.refl _ _ | assumption | refine Below.setCell ?_ (by first | omega | (simp; done) | (simp; omega)) _ | refine Below.drew ?_ | refine Below.alloc ?_ (by first | omega | (simp; done) | (simp; omega)) _ | refine Below.trans ?_ (Below.mono (by assumption) (by first | omega | (simp; done) | (simp; omega)))))⟩
  · have h1 : 1 ≤ n := by omega
    have h2 : n ≤ 512 := by omega
    have hh := Lib.hid (w_in h1 h2)
    have hc := fun w => rclass_any n w hn
    rw [(c_in h1 h2).1, (c_in h1 h2).2] at hc
    have hl := cls_lt n
    have hbd := tb_bd _ hl
    clear h
    go_enter Try.func14, Try.ntmps14
    go_wp2_with fail
    refine (hc _).mono ?_
    rintro e w1 ⟨rfl, hb⟩
    have hz := hb.size
    have hcell := cells_new w1 3 _ hl
    go_wp2_with fail
    refine (all_any _).mono ?_
    rintro e w2 ⟨rfl, rfl⟩
    go_wp2_with fail
    go_ret
    exact ⟨ret1 hh.out.symm, (by repeat (first | exact Below.refl _ _ | assumption | refine Below.setCell ?_ (by first | omega | (simp; done) | (simp; omega)) _ | refine Below.drew ?_ | refine Below.alloc ?_ (by first | omega | (simp; done) | (simp; omega)) _ | refine Below.trans ?_ (Below.mono (by assumption) (by first | omega | (simp; done) | (simp; omega)))))⟩

theorem bring_mod (i n : Int) (h1 : 1 ≤ n) (hm1 : -n < i.tmod n) (hm2 : i.tmod n < n) : i % n = if i.tmod n < 0 then i.tmod n + n else i.tmod n := by
  have e : i % n = (i.tmod n) % n := by
    have h := Int.mul_tdiv_add_tmod i n
    have h2 : (n * i.tdiv n + i.tmod n) % n = (i.tmod n) % n := by
      rw [Int.add_comm, Int.add_mul_emod_self_left]
    rw [h] at h2; exact h2
  rw [e]
  split
  · rw [← Int.add_emod_right]; exact Int.emod_eq_of_lt (by omega) (by omega)
  · exact Int.emod_eq_of_lt (by omega) (by omega)

set_option maxHeartbeats 400000 in
theorem bring_any (i n : Int) (w : World) (h1 : 1 ≤ n) (h2 : n ≤ 4294967296) (hi : -9223372036854775808 ≤ i) (hi' : i ≤ 9223372036854775807) :
    Calls Try.prog 16 #[.int .i64 i, .int .i64 n] w fun e w' => e = .returned (.int .i64 (i % n)) ∧ w = w' := by
  have hne : (n == 0) = false := by simp; omega
  have hm1 : -n < i.tmod n := by have := Int.lt_tmod_of_pos i (show 0 < n by omega); omega
  have hm2 : i.tmod n < n := Int.tmod_lt_of_pos i (by omega)
  have hemod := bring_mod i n h1 hm1 hm2
  by_cases hneg : i.tmod n < 0
  · rw [if_pos hneg] at hemod
    have hh := Lib.hid hemod
    clear hemod
    go_enter Try.func16, Try.ntmps16
    go_wp2_with fail
    go_ret
    exact ⟨ret1 hh.out.symm, rfl⟩
  · rw [if_neg hneg] at hemod
    have hh := Lib.hid hemod
    clear hemod
    go_enter Try.func16, Try.ntmps16
    go_wp2_with fail
    go_ret
    exact ⟨ret1 hh.out.symm, rfl⟩
end Go.Proofs.Ytpbnbfkpngaipaa
