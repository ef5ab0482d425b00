/- The merge of two sorted rows of calls: one on the right side. -/
import Derived.Test.YthmkmjoeceghiaaOV
namespace Go.Proofs.Ythmkmjoeceghiaa
open Go.RowKit

attribute [local go_sem ↓] Go.wp_at_zero Go.wp_at_succ
set_option maxRecDepth 100000 in
set_option maxHeartbeats 4000000 in
theorem merge_right (l : List Sp) (g cap n : Nat) (cb : Nat → Nat) (z : Nat → Value) (f : Nat → Nat) (a m b : Nat) (w : World) (P0 : Pre l g cap n cb z f a m b w) (h0 : m ≠ a + 1) (h1 : b = m + 1) :
    Calls Try.prog 80 #[.slice (some ⟨g, 0, none⟩) n cap, .int .i64 a, .int .i64 m, .int .i64 b, soonerV] w (Merged l g cap n cb z f a b w) := by
  have P := Lib.hid P0
  have H1 := Lib.hid h1
  have hc := P0.hc
  have hn := P0.hn
  have ham := P0.am
  have hmb := P0.mb
  have hbn := P0.bn
  have q0 : ((m : Int) - a == 1) = false := by simp; omega
  have q1 : (b : Int) - m = 1 := by omega
  clear P0 h1 h0
  go_enter Try.func80, Try.ntmps80
  go_wp2_with fail
  clear q0 q1
  go_loopw [14, 15] (fun iv jv wr => ∃ i j : Nat, a ≤ i ∧ i ≤ j ∧ j ≤ m ∧ iv = .int .i64 i ∧ jv = .int .i64 j ∧ (i = a ∨ before l (f (i - 1)) (f m)) ∧ (j = m ∨ before l (f m) (f j)) ∧ RowN wr g cap n cb z f ∧ w.grownBy wr (some g)) (fun iv jv _ => (intOf jv).toNat - (intOf iv).toNat)
  case atStart => exact ⟨a, m, Nat.le_refl _, by omega, Nat.le_refl _, rfl, rfl, .inl rfl, .inl rfl, P.out.row, grown_refl _ _⟩
  case round =>
    obtain ⟨i, j, hmi, hij, hjb, rfl, rfl, hbi, hbj, hR, hG⟩ := hrel
    have BI := Lib.hid hbi
    have BJ := Lib.hid hbj
    have R1 := Lib.hid hR
    have G1 := Lib.hid hG
    clear hbi hbj hR hG
    by_cases hlt : i < j
    · obtain ⟨h, hh⟩ : ∃ h, h = (i + j) / 2 := ⟨_, rfl⟩
      have hq := half i j
      rw [← hh] at hq
      have hh1 : i ≤ h := by omega
      have hh2 : h < j := by omega
      have c1 := R1.out.cell hc (j := h) (by omega)
      have c2 := R1.out.cell hc (j := m) (by omega)
      have i0 : (i : Int) < j := by omega
      have i1 : (h : Int) < n := by omega
      have i2 : (m : Int) < n := by omega
      have i3 : (0 : Int) ≤ h := by omega
      have i4 : (0 : Int) ≤ m := by omega
      have i5 : (0 : Int) ≤ (i : Int) + j := by omega
      have i6 : (i : Int) + j ≤ 200000 := by omega
      have k1 := fun d os => cell_regrown c1 d os
      have k2 := fun d os => cell_regrown c2 d os
      have hcmp := fun W (hb : Below wr.heap.size wr W) => P.out.cmp (x := m) (y := h) (grown_trans G1.out (grown_of_below hb _)) (by omega) (by omega)
      have HY := Lib.hid (P.out.lt_iff (x := m) (y := h) (Nat.le_refl _) hmb (by omega) (by omega)).1
      have HN := Lib.hid (P.out.no_iff (x := m) (y := h) (Nat.le_refl _) hmb (by omega) (by omega))
      obtain ⟨r, hr⟩ : ∃ r, r = cmpI l (f m) (f h) := ⟨_, rfl⟩
      rw [← hr] at hcmp HY HN
      clear hr hh
      by_cases hrn : r < 0
      · have BB := Lib.hid (HY.out hrn)
        go_wp2_with fail
        refine wp_region_quiet_below (by kernel_rfl) (by kernel_rfl) ?_
        repeat (quiet_step (first | ((go_at_call 55; exact Calls.regrown_of (hcmp _ (below_regrown wr _ _))))))
        refine wpQuiet_nil ?_
        intro _ hw'
        obtain ⟨⟨dq, osq⟩, hw''⟩ := hw'
        subst hw''
        have hbq : Below wr.heap.size wr (Go.Sort.grow (redrawn wr dq) osq) := below_regrown wr dq osq
        dsimp only
        generalize Go.Sort.grow (redrawn wr dq) osq = wq at hbq ⊢
        clear k1 k2 hcmp c1 c2 hrn hq
        have R3 := Lib.hid (R1.out.below hbq)
        have G3 := Lib.hid (grown_trans G1.out (grown_of_below hbq _))
        clear hbq R1 G1
        go_wp2_with fail
        go_roundw
        case rel => exact ⟨i, h, hmi, by omega, by omega, rfl, rfl, BI.out, .inr BB.out, R3.out, G3.out⟩
        case measure => simp [intOf]; omega
      · have BB := Lib.hid (HN.out hrn)
        have hrd : decide (r < 0) = false := by simpa using hrn
        go_wp2_with fail
        refine wp_region_quiet_below (by kernel_rfl) (by kernel_rfl) ?_
        repeat (quiet_step (first | ((go_at_call 55; exact Calls.regrown_of (hcmp _ (below_regrown wr _ _))))))
        refine wpQuiet_nil ?_
        intro _ hw'
        obtain ⟨⟨dq, osq⟩, hw''⟩ := hw'
        subst hw''
        have hbq : Below wr.heap.size wr (Go.Sort.grow (redrawn wr dq) osq) := below_regrown wr dq osq
        dsimp only
        generalize Go.Sort.grow (redrawn wr dq) osq = wq at hbq ⊢
        clear k1 k2 hcmp c1 c2 hrn hq hrd
        have R3 := Lib.hid (R1.out.below hbq)
        have G3 := Lib.hid (grown_trans G1.out (grown_of_below hbq _))
        clear hbq R1 G1
        go_wp2_with fail
        go_roundw
        case rel => exact ⟨h + 1, j, by omega, by omega, hjb, by go_num, rfl, .inr BB.out, BJ.out, R3.out, G3.out⟩
        case measure => simp [intOf]; omega
    · obtain rfl : i = j := by omega
      have i0 : ¬ (i : Int) < i := by omega
      go_wp2_with fail
      clear i0
      go_loopw [17] (fun kv wr => ∃ k : Nat, i ≤ k ∧ k ≤ m ∧ kv = .int .i64 k ∧ RowN wr g cap n cb z (rot f k m (m + 1)) ∧ w.grownBy wr (some g)) (fun kv _ => (intOf kv).toNat)
      case atStart => exact ⟨m, hjb, Nat.le_refl _, rfl, by rw [rot_none]; exact R1.out, G1.out⟩
      case round =>
        clear R1 G1
        obtain ⟨k, hik, hkm, rfl, hR, hG⟩ := hrel
        have R2 := Lib.hid hR
        have G2 := Lib.hid hG
        clear hR hG
        by_cases hlk : i < k
        · have c1 := R2.out.cell hc (j := k) (by omega)
          have c2 := R2.out.cell hc (j := k - 1) (by omega)
          have f1 := R2.out.frozen k
          have f2 := R2.out.frozen (k - 1)
          have hne : k ≠ k - 1 := by omega
          have j0 : (i : Int) < k := by omega
          have j1 : (0 : Int) ≤ (k : Int) - 1 := by omega
          have j1' : (1 : Int) ≤ (k : Int) := by omega
          have j2 : (k : Int) - 1 < n := by omega
          have j3 : ((k : Int) - 1).toNat = k - 1 := by omega
          have j4 : (k : Int) < n := by omega
          have j5 : (0 : Int) ≤ (k : Int) := by omega
          have j6 : IntKind.i64.wrap ((k : Int) - 1) = (k : Int) - 1 := IntWalk.i64_in _ (by omega)
          go_wp2_with fail
          go_region
          all_goals
            have X1 := Lib.hid (R2.out.swap (x := k) (y := k - 1) (by omega) (by omega) hne)
            have X2 := Lib.hid (R2.out.swap' (x := k) (y := k - 1) (by omega) (by omega) hne)
            have XE := Lib.hid (show swp (rot f k m (m + 1)) k (k - 1) = rot f (k - 1) m (m + 1) from by
              have := rot_dn f m (k - 1) (by omega)
              rwa [show k - 1 + 1 = k by omega] at this)
            clear c1 c2 f1 f2 j6
            go_wp2_with fail
            go_roundw
            case rel => exact ⟨k - 1, by omega, by omega, (by congr 1; omega), by first | exact RowN.congr X1.out XE.out | exact RowN.congr X2.out XE.out, grown_trans G2.out (by first | exact swp_grown _ _ _ _ _ _ | exact grown_trans (swp_grown _ _ _ _ _ _) (grown_of_below (Below.refl _ _).drew (some g)))⟩
            case measure => simp [intOf]; omega
        · have j0 : ¬ (i : Int) < k := by omega
          have hki' : k = i := by omega
          have R4 := Lib.hid (RowN.congr R2.out (f' := rot f i m b) (by rw [hki', H1.out]))
          have FIN := Lib.hid (show Rr f (rot f i m b) a b ∧ Srt l (rot f i m b) a b from by
            refine ⟨(Rr.rot f hjb (by omega)).wide hmi (Nat.le_refl _), ?_⟩
            have e := H1.out
            have := P.out.ls
            rw [e] at this ⊢
            exact one_dn P.out.s1 this hmi hjb BJ.out BI.out)
          clear hki'
          go_wp2_with fail
          go_end0
          exact ⟨rfl, _, R4.out, FIN.out.1, FIN.out.2, G2.out⟩
end Go.Proofs.Ythmkmjoeceghiaa
