/- The walk over the reference's Next; works; PickTells, PickGaps. -/
import Derived.Test.YtlndhdficackcaaE
namespace Go.Proofs.Ytlndhdficackcaa
open Go.RowKit Go.Shelf

set_option maxHeartbeats 1000000 in
theorem rnext_any (bs : List Bool) (a : Option Addr) (cap : Nat) (last : Int) (w : World) (hI : IsSl encB w a bs) (hbs : bs.length ≤ 17592186044416) (hl : -9223372036854775808 ≤ last ∧ last ≤ 9223372036854775807) :
    Calls Try.prog 12 #[.slice a bs.length cap, .int .i64 last] w fun e w' => e = .returned (.tuple #[.int .i64 (nextA bs last), .bool (pickB bs)]) ∧ w = w' := by
  rcases Nat.eq_zero_or_pos bs.length with h0 | h0
  · obtain rfl : bs = [] := List.eq_nil_of_length_eq_zero h0
    have hh : Hid (nextA [] last = 0 ∧ pickB [] = false) := ⟨rfl, rfl⟩
    by_cases hneg : last < 0
    all_goals
      go_enter Try.func12, Try.ntmps12
      go_wp2_with fail
      refine wp_loop_rounds 1 ?_
      rw [rounds_succ]
      go_wp2_with fail
      go_ret2
      exact ⟨retIB hh.out.1.symm hh.out.2.symm, rfl⟩
  · have HN := Lib.hid (rnext_none (bs := bs) (last := last) h0)
    have HH := Lib.hid (fun (i : Nat) => rnext_hit (bs := bs) (last := last) (i := i) h0)
    have hfl := from_lt h0 last
    have hfr : Hid (from_ bs.length last = if last < 0 ∨ (bs.length : Int) ≤ last then bs.length - 1 else last.toNat) := rfl
    have HI := Lib.hid hI
    clear hI
    by_cases hneg : last < 0
    · have hfL : from_ bs.length last = bs.length - 1 := hfr.out.trans (if_pos (.inl hneg))
      have hLV : Hid ((from_ bs.length last : Int) = (bs.length : Int) - 1) := by unfold Hid; omega
      have hLN := Lib.hid hfL
      generalize from_ bs.length last = L at *
      clear hfL hfr
      go_enter Try.func12, Try.ntmps12
      go_wp2_with fail
      go_loop [7] (fun i => ∃ k : Nat, 1 ≤ k ∧ k ≤ bs.length + 1 ∧ i = .int .i64 k ∧ ∀ j, 1 ≤ j → j < k → bs[at_ bs.length L j]? ≠ some true) (fun i => bs.length + 1 - (intOf i).toNat)
      case atStart => exact ⟨1, by omega, by omega, rfl, fun j h1 h2 => by omega⟩
      case round =>
        obtain ⟨k, hk1, hk2, rfl, hall⟩ := hrel
        have HA := Lib.hid hall
        clear hall
        by_cases hlt : k ≤ bs.length
        · have hat := at_lt (L := L) (i := k) h0
          obtain ⟨b, off, x, rfl, hxk, hc⟩ := HI.out.at hat
          have HX := Lib.hid hxk
          clear hxk
          have hne : ((bs.length : Int) == 0) = false := beq_eq_false_iff_ne.2 (by omega)
          have hm0 : 0 ≤ (((bs.length : Int) - 1) + (k : Int)) % (bs.length : Int) := Int.emod_nonneg _ (by omega)
          have hm1 : (((bs.length : Int) - 1) + (k : Int)) % (bs.length : Int) < (bs.length : Int) := Int.emod_lt_of_pos _ (by omega)
          have hval := Lib.hid (show (((bs.length : Int) - 1) + (k : Int)) % (bs.length : Int) = (at_ bs.length L k : Nat) from by rw [← hLV.out]; unfold at_; simp)
          have hidx := Lib.hid (show (bs.length - 1 + k) % bs.length = at_ bs.length L k from by rw [← hLN.out]; rfl)
          rw [← hidx.out] at hc
          cases x with
          | true =>
            have hh := Lib.hid (HH.out k hk1 hlt HA.out HX.out)
            go_wp2_with fail
            go_ret2
            exact ⟨retIB (by rw [hh.out.1, ← hval.out]) hh.out.2.symm, rfl⟩
          | false =>
            go_wp2_with fail
            go_round
            case rel =>
              refine ⟨k + 1, by omega, by omega, by go_num, fun j h1 h2 => ?_⟩
              rcases Nat.lt_or_ge j k with h | h
              · exact HA.out j h1 h
              · obtain rfl : j = k := by omega
                rw [HX.out]; simp
            case measure => simp [intOf]; omega
        · have hh := Lib.hid (HN.out (fun i h1 h2 => HA.out i h1 (by omega)))
          go_wp2_with fail
          go_ret2
          exact ⟨retIB hh.out.1.symm hh.out.2.symm, rfl⟩
    · by_cases hge : (bs.length : Int) ≤ last
      · have hfL : from_ bs.length last = bs.length - 1 := hfr.out.trans (if_pos (.inr hge))
        have hLV : Hid ((from_ bs.length last : Int) = (bs.length : Int) - 1) := by unfold Hid; omega
        have hLN := Lib.hid hfL
        generalize from_ bs.length last = L at *
        clear hfL hfr
        go_enter Try.func12, Try.ntmps12
        go_wp2_with fail
        go_loop [7] (fun i => ∃ k : Nat, 1 ≤ k ∧ k ≤ bs.length + 1 ∧ i = .int .i64 k ∧ ∀ j, 1 ≤ j → j < k → bs[at_ bs.length L j]? ≠ some true) (fun i => bs.length + 1 - (intOf i).toNat)
        case atStart => exact ⟨1, by omega, by omega, rfl, fun j h1 h2 => by omega⟩
        case round =>
          obtain ⟨k, hk1, hk2, rfl, hall⟩ := hrel
          have HA := Lib.hid hall
          clear hall
          by_cases hlt : k ≤ bs.length
          · have hat := at_lt (L := L) (i := k) h0
            obtain ⟨b, off, x, rfl, hxk, hc⟩ := HI.out.at hat
            have HX := Lib.hid hxk
            clear hxk
            have hne : ((bs.length : Int) == 0) = false := beq_eq_false_iff_ne.2 (by omega)
            have hm0 : 0 ≤ (((bs.length : Int) - 1) + (k : Int)) % (bs.length : Int) := Int.emod_nonneg _ (by omega)
            have hm1 : (((bs.length : Int) - 1) + (k : Int)) % (bs.length : Int) < (bs.length : Int) := Int.emod_lt_of_pos _ (by omega)
            have hval := Lib.hid (show (((bs.length : Int) - 1) + (k : Int)) % (bs.length : Int) = (at_ bs.length L k : Nat) from by rw [← hLV.out]; unfold at_; simp)
            have hidx := Lib.hid (show (bs.length - 1 + k) % bs.length = at_ bs.length L k from by rw [← hLN.out]; rfl)
            rw [← hidx.out] at hc
            cases x with
            | true =>
              have hh := Lib.hid (HH.out k hk1 hlt HA.out HX.out)
              go_wp2_with fail
              go_ret2
              exact ⟨retIB (by rw [hh.out.1, ← hval.out]) hh.out.2.symm, rfl⟩
            | false =>
              go_wp2_with fail
              go_round
              case rel =>
                refine ⟨k + 1, by omega, by omega, by go_num, fun j h1 h2 => ?_⟩
                rcases Nat.lt_or_ge j k with h | h
                · exact HA.out j h1 h
                · obtain rfl : j = k := by omega
                  rw [HX.out]; simp
              case measure => simp [intOf]; omega
          · have hh := Lib.hid (HN.out (fun i h1 h2 => HA.out i h1 (by omega)))
            go_wp2_with fail
            go_ret2
            exact ⟨retIB hh.out.1.symm hh.out.2.symm, rfl⟩
      · have hfL : from_ bs.length last = last.toNat := hfr.out.trans (if_neg (by omega))
        obtain ⟨m, rfl⟩ := Int.eq_ofNat_of_zero_le (show 0 ≤ last by omega)
        have hLV : Hid ((from_ bs.length (m : Int) : Int) = (m : Int)) := by unfold Hid; rw [hfL]; simp
        have hLN : Hid (from_ bs.length (m : Int) = m) := by unfold Hid; rw [hfL]; simp
        generalize from_ bs.length (m : Int) = L at *
        clear hfL hfr
        go_enter Try.func12, Try.ntmps12
        go_wp2_with fail
        go_loop [7] (fun i => ∃ k : Nat, 1 ≤ k ∧ k ≤ bs.length + 1 ∧ i = .int .i64 k ∧ ∀ j, 1 ≤ j → j < k → bs[at_ bs.length L j]? ≠ some true) (fun i => bs.length + 1 - (intOf i).toNat)
        case atStart => exact ⟨1, by omega, by omega, rfl, fun j h1 h2 => by omega⟩
        case round =>
          obtain ⟨k, hk1, hk2, rfl, hall⟩ := hrel
          have HA := Lib.hid hall
          clear hall
          by_cases hlt : k ≤ bs.length
          · have hat := at_lt (L := L) (i := k) h0
            obtain ⟨b, off, x, rfl, hxk, hc⟩ := HI.out.at hat
            have HX := Lib.hid hxk
            clear hxk
            have hne : ((bs.length : Int) == 0) = false := beq_eq_false_iff_ne.2 (by omega)
            have hm0 : 0 ≤ ((m : Int) + (k : Int)) % (bs.length : Int) := Int.emod_nonneg _ (by omega)
            have hm1 : ((m : Int) + (k : Int)) % (bs.length : Int) < (bs.length : Int) := Int.emod_lt_of_pos _ (by omega)
            have hval := Lib.hid (show ((m : Int) + (k : Int)) % (bs.length : Int) = (at_ bs.length L k : Nat) from by rw [← hLV.out]; unfold at_; simp)
            have hidx := Lib.hid (show (m + k) % bs.length = at_ bs.length L k from by rw [← hLN.out]; rfl)
            rw [← hidx.out] at hc
            cases x with
            | true =>
              have hh := Lib.hid (HH.out k hk1 hlt HA.out HX.out)
              go_wp2_with fail
              go_ret2
              exact ⟨retIB (by rw [hh.out.1, ← hval.out]) hh.out.2.symm, rfl⟩
            | false =>
              go_wp2_with fail
              go_round
              case rel =>
                refine ⟨k + 1, by omega, by omega, by go_num, fun j h1 h2 => ?_⟩
                rcases Nat.lt_or_ge j k with h | h
                · exact HA.out j h1 h
                · obtain rfl : j = k := by omega
                  rw [HX.out]; simp
              case measure => simp [intOf]; omega
          · have hh := Lib.hid (HN.out (fun i h1 h2 => HA.out i h1 (by omega)))
            go_wp2_with fail
            go_ret2
            exact ⟨retIB hh.out.1.symm hh.out.2.symm, rfl⟩
end Go.Proofs.Ytlndhdficackcaa
