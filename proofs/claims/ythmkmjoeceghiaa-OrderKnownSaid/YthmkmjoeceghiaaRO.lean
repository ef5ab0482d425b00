/- OrderExact. -/
import Derived.Test.YthmkmjoeceghiaaRM
namespace Go.Proofs.Ythmkmjoeceghiaa
open Go.RowKit

attribute [local go_sem ↓] Go.wp_at_zero Go.wp_at_succ
set_option maxRecDepth 100000 in
set_option maxHeartbeats 4000000 in
theorem orderexact_any (l : List Sp) (a : Option Addr) (cap : Nat) (w : World) (hl : l.length ≤ 5000000000000) (hI : IsSpans w a l) :
    Calls Try.prog 10 #[.slice a l.length cap] w (LinesIs w) := by
  have HI := Lib.hid hI
  obtain ⟨s, hs⟩ : ∃ s, s = smL l := ⟨_, rfl⟩
  have hs6 : s.length ≤ 6 := by rw [hs]; exact smL_len l
  have HC := Lib.hid (show chk s = 0 by rw [hs]; exact smL_chk l)
  have HW := Lib.hid (show WfS s by rw [hs]; exact smL_wf l)
  have hsm := fun W h => small_any l a cap W hl h
  unfold SmallIs at hsm
  rw [← hs] at hsm
  have HS := Lib.hid hsm
  clear hI hs hsm
  by_cases hT : (lineT s).isSome = true
  · obtain ⟨r, hr⟩ := Option.isSome_iff_exists.1 hT
    have HE := Lib.hid (lineE_yes HC.out hr)
    have HH := Lib.hid (line_holds HE.out.1)
    have NO := Lib.hid (ints_len (lineO s))
    clear hT hr
    go_enter Try.func10, Try.ntmps10
    go_wp2_with fail
    refine (works28_any w).mono ?_
    rintro e w1 ⟨rfl, hb⟩
    have B1 := Lib.hid hb
    clear hb
    go_wp2_with fail
    refine (HS.out w1 (HI.out.below B1.out)).mono ?_
    rintro e w2 ⟨v, rfl, ho, hb⟩
    obtain ⟨va, vk, rfl, -, -⟩ := owns_form ho
    have I2 := Lib.hid (isSpans_own ho)
    have B2 := Lib.hid (on2 B1.out hb)
    clear ho hb
    go_wp2_with fail
    refine (line_any s va vk w2 (by omega) HW.out I2.out).mono ?_
    rintro e w3 he
    obtain ⟨ao, ko, rfl, hs, hb⟩ := he.open_
    rw [HE.out.1]
    have O3 := Lib.hid hs
    have B3 := Lib.hid (on2 B2.out hb)
    have I3 := Lib.hid (I2.out.below hb)
    clear he hs hb
    go_wp2_with fail
    refine (holds_at s (ints (lineO s)) true va ao s.length (lineO s).length vk ko w3 rfl NO.out HH.out (by omega) HW.out I3.out O3.out).mono ?_
    rintro e w4 ⟨rfl, hb⟩
    have B4 := Lib.hid (on2 B3.out hb)
    clear hb
    go_wp2_with fail
    go_ret
    exact ⟨rfl, B4.out⟩
  · have hn : lineT s = none := by
      cases h : lineT s with
      | none => rfl
      | some r => rw [h] at hT; exact absurd rfl hT
    have HE := Lib.hid (lineE_no HC.out hn)
    have HN := Lib.hid hn
    clear hT hn
    go_enter Try.func10, Try.ntmps10
    go_wp2_with fail
    refine (works28_any w).mono ?_
    rintro e w1 ⟨rfl, hb⟩
    have B1 := Lib.hid hb
    clear hb
    go_wp2_with fail
    refine (HS.out w1 (HI.out.below B1.out)).mono ?_
    rintro e w2 ⟨v, rfl, ho, hb⟩
    obtain ⟨va, vk, rfl, -, -⟩ := owns_form ho
    have I2 := Lib.hid (isSpans_own ho)
    have B2 := Lib.hid (on2 B1.out hb)
    clear ho hb
    go_wp2_with fail
    refine (line_any s va vk w2 (by omega) HW.out I2.out).mono ?_
    rintro e w3 he
    obtain ⟨ao, ko, rfl, hs, hb⟩ := he.open_
    rw [HE.out.1, HE.out.2, List.length_nil]
    have B3 := Lib.hid (on2 B2.out hb)
    have I3 := Lib.hid (I2.out.below hb)
    clear he hs hb
    go_wp2_with fail
    refine (search_any s va vk HC.out HN.out hs6 HW.out s.length [] none 0 w3 (by simp) (by simp) (by simp) I3.out (by rw [ints_nil]; exact IsSl.nil) (fun _ => rfl)).mono ?_
    rintro e w4 ⟨rfl, hb⟩
    have B4 := Lib.hid (on2 B3.out hb)
    clear hb
    go_wp2_with fail
    go_ret
    exact ⟨rfl, B4.out⟩
end Go.Proofs.Ythmkmjoeceghiaa
