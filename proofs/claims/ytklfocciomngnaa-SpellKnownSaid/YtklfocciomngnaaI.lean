/- The reference's Check; great; orders. -/
import Derived.Test.YtklfocciomngnaaH
import Derived.Deep.QuietTactic
import Derived.BigQuiet
namespace Go.Proofs.Ytklfocciomngnaa
open Go.RowKit Go.Lib

set_option maxRecDepth 100000 in
set_option maxHeartbeats 1000000 in
theorem rcheck_any (s : ByteArray) (w : World) (hs : s.size ≤ 35184372088831) : Calls Try.prog 11 #[.string s] w fun e w' => e = .returned (.int .i64 (chkE (rs s))) ∧ Below w.heap.size w w' := by
  have hvr := Lib.hid (rs_vr s)
  have hrr := rrunes_any s w hs
  generalize rs s = l at *
  go_enter Try.func11, Try.ntmps11
  go_wp2_with fail
  refine hrr.mono ?_
  rintro e w1 ⟨v, rfl, hv, hb⟩
  clear hrr
  obtain ⟨a, cap, rfl, hI, -⟩ := isSl_of_owns (α := Int) hv
  have BB := Lib.hid hb
  have S := Lib.hid hI
  have hlm := hI.len
  clear hv hb hI
  by_cases h0 : l.length < 1
  · have HE := Lib.hid (show chkE l = 10 from chk_bad_len (.inl h0))
    have hb1 : decide ((l.length : Int) < 1) = true := by rw [decide_eq_true_iff]; omega
    clear h0
    go_wp2_with fail
    go_ret
    exact ⟨ret1 HE.out.symm, BB.out⟩
  · have hb1 : decide ((l.length : Int) < 1) = false := by rw [decide_eq_false_iff_not]; omega
    by_cases h16 : 16 < l.length
    · have HE := Lib.hid (show chkE l = 10 from chk_bad_len (.inr h16))
      have hb2 : decide ((16 : Int) < (l.length : Int)) = true := by simp; omega
      clear h0
      go_wp2_with fail
      go_ret
      exact ⟨ret1 HE.out.symm, BB.out⟩
    · have hb2 : decide ((16 : Int) < (l.length : Int)) = false := by rw [decide_eq_false_iff_not]; omega
      have hl0 : 0 < l.length := by omega
      obtain ⟨b, off, r0, rfl, hr0, c0⟩ := S.out.at hl0
      dsimp only [encR] at c0
      rw [Nat.add_zero] at c0
      have hv0 := hvr.out r0 (List.mem_of_getElem? hr0)
      have b0 := hv0.1
      have b1 := hv0.2.2
      have R0 := Lib.hid hr0
      have hl16 : l.length ≤ 16 := by omega
      clear h0 h16 hr0 hv0
      go_wp2_with fail
      refine (rfold_any r0 w1 b0 b1).mono ?_
      rintro e w2 ⟨rfl, rfl⟩
      go_wp2_with fail
      cases hl : letB r0 with
      | false =>
        have HE := Lib.hid (show chkE l = 10 from by
          cases l with
          | nil => simp at hl0
          | cons x xs =>
            have := R0.out
            simp at this
            subst this
            exact chk_bad_head hl)
        refine (rsmall_at hl _).mono ?_
        rintro e w2 ⟨rfl, rfl⟩
        clear hl
        go_wp2_with fail
        go_ret
        exact ⟨ret1 HE.out.symm, BB.out⟩
      | true =>
        refine (rsmall_at hl _).mono ?_
        rintro e w2 ⟨rfl, rfl⟩
        have HL := Lib.hid hl
        clear hl c0
        go_wp2_with fail
        go_loop [4] (fun iv => ∃ i : Nat, i ≤ l.length ∧ iv = .int .i64 i ∧ ∀ x ∈ l.take i, letB x = true ∨ othB x = true) (fun iv => l.length - (RowKit.intOf iv).toNat)
        case atStart => exact ⟨0, by omega, rfl, by simp⟩
        case round =>
          obtain ⟨i, hi, rfl, hall⟩ := hrel
          have AL := Lib.hid hall
          clear hall
          by_cases hlt : i < l.length
          · have hri : l[i]? = some l[i] := List.getElem?_eq_getElem hlt
            obtain ⟨r, hre⟩ : ∃ r, l[i] = r := ⟨_, rfl⟩
            rw [hre] at hri
            obtain ⟨b', off', r', hbb, hr', c1⟩ := S.out.at hlt
            obtain ⟨rfl, rfl⟩ : b = b' ∧ off = off' := by simpa using hbb
            obtain rfl : r = r' := by rw [hri] at hr'; exact Option.some.inj hr'
            dsimp only [encR] at c1
            have hvr' := hvr.out r (List.mem_of_getElem? hri)
            have d0 := hvr'.1
            have d1 := hvr'.2.2
            have HT := Lib.hid (take_succ hri)
            have HI := Lib.hid hri
            have j0 : (0 : Int) ≤ (i : Int) := by omega
            have j1 : (i : Int) < (l.length : Int) := by omega
            clear hre hr' hvr' hbb hri
            cases hlr : letB r with
            | true =>
              have HR := Lib.hid hlr
              clear hlr
              by_cases a1 : (48 : Int) ≤ r
              · skip
                skip
                go_wp2_with fail
                refine (rfold_any r w1 d0 d1).mono ?_
                rintro e w2 ⟨rfl, rfl⟩
                go_wp2_with fail
                refine (rsmall_at HR.out _).mono ?_
                rintro e w2 ⟨rfl, rfl⟩
                go_wp2_with fail
                all_goals
                  go_round
                  case rel => exact ⟨i + 1, by omega, by go_num, fun y hy => by rw [HT.out] at hy; rcases List.mem_append.1 hy with h | h; exact AL.out y h; simp at h; subst h; exact .inl HR.out⟩
                  case measure => simp [RowKit.intOf]; omega
              · skip
                skip
                go_wp2_with fail
                refine (rfold_any r w1 d0 d1).mono ?_
                rintro e w2 ⟨rfl, rfl⟩
                go_wp2_with fail
                refine (rsmall_at HR.out _).mono ?_
                rintro e w2 ⟨rfl, rfl⟩
                go_wp2_with fail
                all_goals
                  go_round
                  case rel => exact ⟨i + 1, by omega, by go_num, fun y hy => by rw [HT.out] at hy; rcases List.mem_append.1 hy with h | h; exact AL.out y h; simp at h; subst h; exact .inl HR.out⟩
                  case measure => simp [RowKit.intOf]; omega
            | false =>
              have HR := Lib.hid hlr
              clear hlr
              by_cases a1 : (48 : Int) ≤ r
              · by_cases a2 : r ≤ 57
                · skip
                  go_wp2_with fail
                  refine (rfold_any r w1 d0 d1).mono ?_
                  rintro e w2 ⟨rfl, rfl⟩
                  go_wp2_with fail
                  refine (rsmall_at HR.out _).mono ?_
                  rintro e w2 ⟨rfl, rfl⟩
                  go_wp2_with fail
                  go_round
                  case rel => exact ⟨i + 1, by omega, by go_num, fun y hy => by rw [HT.out] at hy; rcases List.mem_append.1 hy with h | h; exact AL.out y h; simp at h; subst h; exact .inr ((othB_iff _).2 (by first | omega | (have := A4.out; omega)))⟩
                  case measure => simp [RowKit.intOf]; omega
                · have a3 : (r != 45) = true := by simp; omega
                  have A2 := Lib.hid a2
                  by_cases a4 : r = 95
                  · have a5 : (r != 95) = false := by simpa using a4
                    have A4 := Lib.hid a4
                    clear a4
                    go_wp2_with fail
                    refine (rfold_any r w1 d0 d1).mono ?_
                    rintro e w2 ⟨rfl, rfl⟩
                    go_wp2_with fail
                    refine (rsmall_at HR.out _).mono ?_
                    rintro e w2 ⟨rfl, rfl⟩
                    go_wp2_with fail
                    go_round
                    case rel => exact ⟨i + 1, by omega, by go_num, fun y hy => by rw [HT.out] at hy; rcases List.mem_append.1 hy with h | h; exact AL.out y h; simp at h; subst h; exact .inr ((othB_iff _).2 (by first | omega | (have := A4.out; omega)))⟩
                    case measure => simp [RowKit.intOf]; omega
                  · have a5 : (r != 95) = true := by simpa using a4
                    go_wp2_with fail
                    refine (rfold_any r w1 d0 d1).mono ?_
                    rintro e w2 ⟨rfl, rfl⟩
                    go_wp2_with fail
                    refine (rsmall_at HR.out _).mono ?_
                    rintro e w2 ⟨rfl, rfl⟩
                    go_wp2_with fail
                    go_ret
                    exact ⟨ret1 (chk_bad_at (List.mem_of_getElem? HI.out) HR.out (oth_no (by first | omega | (refine ⟨?_, ?_, ?_⟩ <;> first | omega | simpa using a3 | simpa using a5)))).symm, BB.out⟩
              · have a5 : (r != 95) = true := by simp; omega
                by_cases a4 : r = 45
                · have a3 : (r != 45) = false := by simpa using a4
                  have A4 := Lib.hid a4
                  clear a4
                  go_wp2_with fail
                  refine (rfold_any r w1 d0 d1).mono ?_
                  rintro e w2 ⟨rfl, rfl⟩
                  go_wp2_with fail
                  refine (rsmall_at HR.out _).mono ?_
                  rintro e w2 ⟨rfl, rfl⟩
                  go_wp2_with fail
                  go_round
                  case rel => exact ⟨i + 1, by omega, by go_num, fun y hy => by rw [HT.out] at hy; rcases List.mem_append.1 hy with h | h; exact AL.out y h; simp at h; subst h; exact .inr ((othB_iff _).2 (by first | omega | (have := A4.out; omega)))⟩
                  case measure => simp [RowKit.intOf]; omega
                · have a3 : (r != 45) = true := by simpa using a4
                  go_wp2_with fail
                  refine (rfold_any r w1 d0 d1).mono ?_
                  rintro e w2 ⟨rfl, rfl⟩
                  go_wp2_with fail
                  refine (rsmall_at HR.out _).mono ?_
                  rintro e w2 ⟨rfl, rfl⟩
                  go_wp2_with fail
                  go_ret
                  exact ⟨ret1 (chk_bad_at (List.mem_of_getElem? HI.out) HR.out (oth_no (by first | omega | (refine ⟨?_, ?_, ?_⟩ <;> first | omega | simpa using a3 | simpa using a5)))).symm, BB.out⟩
          · have HE := Lib.hid (show chkE l = 0 from by
              cases l with
              | nil => simp at hl0
              | cons x xs =>
                have := R0.out
                simp at this
                subst this
                refine chk_good HL.out (fun y hy => ?_) hl16
                have := AL.out
                rw [List.take_of_length_le (by omega)] at this
                exact this y hy)
            go_wp2_with fail
            go_ret
            exact ⟨ret1 HE.out.symm, BB.out⟩
end Go.Proofs.Ytklfocciomngnaa
