/- The insertion sort of calls. -/
import Derived.Test.YthmkmjoeceghiaaOT
namespace Go.Proofs.Ythmkmjoeceghiaa
open Go.RowKit

attribute [local go_sem ↓] Go.wp_at_zero Go.wp_at_succ
abbrev soonerV : Value := .func (.func 55) #[] #[]
/-- what a comparison of calls i and j answers -/
def cmpI (l : List Sp) (i j : Nat) : Int := snr (sp l i).2.2 (sp l j).2.2
theorem cmpI_lt {l : List Sp} (ht : ∀ i, i < l.length → -1 ≤ (sp l i).2.2) {i j : Nat} (hi : i < l.length) (hj : j < l.length) : cmpI l i j < 0 ↔ soon (sp l i) (sp l j) = true := snr_lt (ht i hi) (ht j hj)
theorem cmp_calls {l : List Sp} {g : Nat} {cb : Nat → Nat} {w : World} (h : TsAt w g l cb) (ht : ∀ i, i < l.length → -1 ≤ (sp l i).2.2) {i j : Nat} (hi : i < l.length) (hj : j < l.length) :
    Calls Try.prog 55 #[.pointer (some ⟨cb i, 0, none⟩), .pointer (some ⟨cb j, 0, none⟩)] w fun e w' => e = .returned (.int .i64 (cmpI l i j)) ∧ Below w.heap.size w w' :=
  sooner_at (cb i) (cb j) _ _ w (ht i hi) (h i hi).1 (h j hj).1
theorem TsAt.below {w w' : World} {g : Nat} {l : List Sp} {cb : Nat → Nat} (h : TsAt w g l cb) (hb : Below w.heap.size w w') : TsAt w' g l cb := h.grown (grown_of_below hb _)
set_option maxRecDepth 100000 in
set_option maxHeartbeats 4000000 in
theorem insort_any (l : List Sp) (g cap n : Nat) (cb : Nat → Nat) (z : Nat → Value) (f : Nat → Nat) (a b : Nat) (w : World) (hR : RowN w g cap n cb z f) (hT : TsAt w g l cb) (hc : n ≤ cap) (hn : n ≤ 100000) (hfl : ∀ j, j < n → f j < l.length)
    (ht : ∀ i, i < l.length → -1 ≤ (sp l i).2.2) (hab : a ≤ b) (hbn : b ≤ n) (hls : ∀ p q, a ≤ p → p < q → q < b → f p < f q) :
    Calls Try.prog 79 #[.slice (some ⟨g, 0, none⟩) n cap, .int .i64 a, .int .i64 b, soonerV] w fun e w' => e = .returned (.tuple #[]) ∧ ∃ f', RowN w' g cap n cb z f' ∧ Rr f f' a b ∧ Srt l f' a b ∧ w.grownBy w' (some g) := by
  have R0 := Lib.hid hR
  have T0 := Lib.hid hT
  have FL := Lib.hid hfl
  have TT := Lib.hid ht
  have LS := Lib.hid hls
  clear hR hT hfl ht hls
  by_cases h0 : a = b
  · subst h0
    have hS : Hid (Srt l f a a) := fun p q h1 h2 h3 => by omega
    have q0 : ¬ (a : Int) + 1 < a := by omega
    go_enter Try.func79, Try.ntmps79
    go_wp2_with fail
    refine wp_loop_rounds 1 ?_
    rw [rounds_succ]
    go_wp2_with fail
    go_end0
    exact ⟨rfl, f, R0.out, Rr.refl _ _ _, hS.out, grown_refl _ _⟩
  have hab' : a < b := by omega
  clear h0 hab
  go_enter Try.func79, Try.ntmps79
  go_wp2_with fail
  go_loopw [8] (fun iv wr => ∃ (i : Nat) (f' : Nat → Nat), a + 1 ≤ i ∧ i ≤ b ∧ iv = .int .i64 i ∧ RowN wr g cap n cb z f' ∧ Rr f f' a i ∧ Srt l f' a i ∧ w.grownBy wr (some g)) (fun iv _ => b - (intOf iv).toNat)
  case atStart => exact ⟨a + 1, f, Nat.le_refl _, hab', by go_num, R0.out, Rr.refl _ _ _, fun p q h1 h2 h3 => by omega, grown_refl _ _⟩
  case round =>
    clear R0
    obtain ⟨i, f', hai, hib, rfl, hR, hr, hs, hG⟩ := hrel
    have R1 := Lib.hid hR
    have RR := Lib.hid hr
    have SS := Lib.hid hs
    have G1 := Lib.hid hG
    have HFI := Lib.hid (show f' i = f i from hr.out i (by omega))
    have HFP := Lib.hid (show ∀ p, a ≤ p → p < i → i < b → f' p < f' i from fun p p1 p2 p3 => by
      obtain ⟨q, q1, q2, q3⟩ := hr.fro p p1 p2
      rw [q3, hr.out i (by omega)]
      exact LS.out q i q1 q2 p3)
    have HLN := Lib.hid (show ∀ p, a ≤ p → p ≤ i → i < b → f' p < l.length from fun p p1 p2 p3 => by
      by_cases e : p = i
      · rw [e, hr.out i (by omega)]; exact FL.out i (by omega)
      · obtain ⟨q, q1, q2, q3⟩ := hr.fro p p1 (by omega)
        rw [q3]; exact FL.out q (by omega))
    have LSI := Lib.hid (show i < b → Lss f' a i (i + 1) from fun h p q p1 p2 p3 p4 => by
      have e : q = i := by omega
      rw [e]
      exact HFP.out p p1 p2 h)
    clear hR hr hs hG
    by_cases hlt : i < b
    · have i0 : (i : Int) < b := by omega
      go_wp2_with fail
      obtain ⟨wo, rfl⟩ : ∃ wo : World, wo = wr := ⟨_, rfl⟩
      go_loopw [9] (fun jv wr => ∃ j : Nat, a ≤ j ∧ j ≤ i ∧ jv = .int .i64 j ∧ RowN wr g cap n cb z (rot f' j i (i + 1)) ∧ (j = i ∨ before l (f' i) (f' j)) ∧ w.grownBy wr (some g)) (fun jv _ => (intOf jv).toNat)
      case atStart => exact ⟨i, by omega, Nat.le_refl _, rfl, by rw [rot_none]; exact R1.out, .inl rfl, G1.out⟩
      case round =>
        clear R1 G1
        obtain ⟨j, haj, hji, rfl, hR, hbf, hG⟩ := hrel
        have R2 := Lib.hid hR
        have BF := Lib.hid hbf
        have G2 := Lib.hid hG
        have T2 := Lib.hid (T0.out.grown hG)
        clear hR hbf hG
        by_cases hja : a < j
        · have c1 := R2.out.cell hc (j := j) (by omega)
          have c2 := R2.out.cell hc (j := j - 1) (by omega)
          rw [rot_last f' i j j hji, if_pos rfl] at c1
          rw [rot_last f' i j (j - 1) hji, if_neg (by omega), if_neg (by omega)] at c2
          have j0 : (a : Int) < j := by omega
          have j1 : (0 : Int) ≤ (j : Int) - 1 := by omega
          have j1' : (1 : Int) ≤ (j : Int) := by omega
          have j2 : (j : Int) - 1 < n := by omega
          have j3 : ((j : Int) - 1).toNat = j - 1 := by omega
          have j4 : (j : Int) < n := by omega
          have j5 : (0 : Int) ≤ (j : Int) := by omega
          have j6 : IntKind.i64.wrap ((j : Int) - 1) = (j : Int) - 1 := IntWalk.i64_in _ (by omega)
          have k1 := fun d os => cell_regrown c1 d os
          have k2 := fun d os => cell_regrown c2 d os
          have hcmp := fun W (hb : Below wr.heap.size wr W) => cmp_calls (T2.out.below hb) TT.out (HLN.out i (by omega) (by omega) hlt) (HLN.out (j - 1) (by omega) (by omega) hlt)
          obtain ⟨r, hr⟩ : ∃ r, r = cmpI l (f' i) (f' (j - 1)) := ⟨_, rfl⟩
          have HR := Lib.hid (show r < 0 ↔ before l (f' i) (f' (j - 1)) from by
            rw [hr, cmpI_lt TT.out (HLN.out i (by omega) (by omega) hlt) (HLN.out (j - 1) (by omega) (by omega) hlt), before_dn (HFP.out (j - 1) (by omega) (by omega) hlt)])
          rw [← hr] at hcmp
          clear hr
          by_cases hrn : r < 0
          · have BB := Lib.hid (HR.out.1 hrn)
            go_wp2_with fail
            refine wp_region_quiet_below (by kernel_rfl) (by kernel_rfl) ?_
            repeat (quiet_step (first | ((go_at_call 55; exact Calls.regrown_of (hcmp _ (below_regrown wr _ _))))))
            refine wpQuiet_nil ?_
            intro _ hw'
            obtain ⟨⟨dq, osq⟩, hw''⟩ := hw'
            subst hw''
            have hbq : Below wr.heap.size wr (Go.Sort.grow (redrawn wr dq) osq) := below_regrown wr dq osq
            dsimp only
            generalize Go.Sort.grow (redrawn wr dq) osq = wq at hbq ⊢
            clear k1 k2 hcmp c1 c2 hrn
            have R3 := Lib.hid (R2.out.below hbq)
            have G3 := Lib.hid (grown_trans G2.out (grown_of_below hbq _))
            clear hbq R2 G2 T2
            have c1 := R3.out.cell hc (j := j) (by omega)
            have c2 := R3.out.cell hc (j := j - 1) (by omega)
            have f1 := R3.out.frozen j
            have f2 := R3.out.frozen (j - 1)
            have hne : j ≠ j - 1 := by omega
            go_wp2_with fail
            go_region
            all_goals
              have X1 := Lib.hid (R3.out.swap (x := j) (y := j - 1) (by omega) (by omega) hne)
              have X2 := Lib.hid (R3.out.swap' (x := j) (y := j - 1) (by omega) (by omega) hne)
              have XE := Lib.hid (show swp (rot f' j i (i + 1)) j (j - 1) = rot f' (j - 1) i (i + 1) from by
                have := rot_dn f' i (j - 1) (by omega)
                rwa [show j - 1 + 1 = j by omega] at this)
              clear c1 c2 f1 f2 j6
              go_wp2_with fail
              go_roundw
              case rel => exact ⟨j - 1, by omega, by omega, (by congr 1; omega), by first | exact RowN.congr X1.out XE.out | exact RowN.congr X2.out XE.out, .inr BB.out, grown_trans G3.out (by first | exact swp_grown _ _ _ _ _ _ | exact grown_trans (swp_grown _ _ _ _ _ _) (grown_of_below (Below.refl _ _).drew (some g)))⟩
              case measure => simp [intOf]; omega
          · have BB := Lib.hid (show ¬ before l (f' i) (f' (j - 1)) from fun h => hrn (HR.out.2 h))
            have hrd : decide (r < 0) = false := by simpa using hrn
            go_wp2_with fail
            refine wp_region_quiet_below (by kernel_rfl) (by kernel_rfl) ?_
            repeat (quiet_step (first | ((go_at_call 55; exact Calls.regrown_of (hcmp _ (below_regrown wr _ _))))))
            refine wpQuiet_nil ?_
            intro _ hw'
            obtain ⟨⟨dq, osq⟩, hw''⟩ := hw'
            subst hw''
            have hbq : Below wr.heap.size wr (Go.Sort.grow (redrawn wr dq) osq) := below_regrown wr dq osq
            dsimp only
            generalize Go.Sort.grow (redrawn wr dq) osq = wq at hbq ⊢
            clear k1 k2 hcmp c1 c2 hrn hrd j6
            have R3 := Lib.hid (R2.out.below hbq)
            have G3 := Lib.hid (grown_trans G2.out (grown_of_below hbq _))
            have BA := Lib.hid (show before l (f' (j - 1)) (f' i) from (before_tot (fun e => by have := HFP.out (j - 1) (by omega) (by omega) hlt; omega)).resolve_right BB.out)
            clear hbq R2 G2 T2
            go_wp2_with fail
            go_roundw
            case rel => exact ⟨i + 1, _, by omega, by omega, by go_num, R3.out, (RR.out.wide (Nat.le_refl _) (by omega)).trans ((Rr.rot f' hji (by omega)).wide haj (Nat.le_refl _)), one_dn SS.out (LSI.out hlt) haj hji BF.out (.inr BA.out), G3.out⟩
            case measure => simp [intOf]; omega
        · have hja2 : j = a := by omega
          have HJA := Lib.hid hja2
          have j0 : decide (a < j) = false := by simp; omega
          clear hja2 hja
          go_wp2_with fail
          go_quiet (fail)
          have hbq : Below wr.heap.size wr (wr.drewN nq) := below_drewN (Below.refl _ _) nq
          generalize wr.drewN nq = wq at hbq ⊢
          have R3 := Lib.hid (R2.out.below hbq)
          have G3 := Lib.hid (grown_trans G2.out (grown_of_below hbq _))
          clear hbq R2 G2 T2
          go_wp2_with fail
          go_roundw
          case rel => exact ⟨i + 1, _, by omega, by omega, by go_num, R3.out, (RR.out.wide (Nat.le_refl _) (by omega)).trans ((Rr.rot f' hji (by omega)).wide haj (Nat.le_refl _)), one_dn SS.out (LSI.out hlt) haj hji BF.out (.inl HJA.out), G3.out⟩
          case measure => simp [intOf]; omega
    · obtain rfl : i = b := by omega
      have i0 : ¬ (i : Int) < i := by omega
      go_wp2_with fail
      go_end0
      exact ⟨rfl, f', R1.out, RR.out, SS.out, G1.out⟩
end Go.Proofs.Ythmkmjoeceghiaa
