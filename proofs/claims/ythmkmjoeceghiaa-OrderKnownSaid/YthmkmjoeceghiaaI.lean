/- The reference's Play; plays; works. -/
import Derived.Test.YthmkmjoeceghiaaH
namespace Go.Proofs.Ythmkmjoeceghiaa
open Go.RowKit

attribute [local go_sem ↓] Go.wp_at_zero Go.wp_at_succ
set_option maxRecDepth 100000 in
set_option maxHeartbeats 1000000 in
theorem rplay_any (l : List Dd) (a : Option Addr) (cap : Nat) (w : World) (hl : l.length < 5000000000000) (hI : IsDeeds w a l) :
    Calls Try.prog 17 #[.slice a l.length cap] w fun e w' => e = .returned (.tuple #[.int .i64 (playR l).1, .int .i64 (playR l).2]) ∧ Below w.heap.size w w' := by
  have HI := Lib.hid hI
  have hlm : l.length ≤ 9223372036854775807 := by omega
  clear hI
  go_enter Try.func17, Try.ntmps17
  go_wp2_with fail
  refine (rnew_any w).mono ?_
  rintro e w1 ⟨rfl, h1, hb⟩
  have H1 := Lib.hid h1
  have HB1 := Lib.hid hb
  obtain ⟨B, hB⟩ : ∃ B, B = w.heap.size := ⟨_, rfl⟩
  have hBl : w.heap.size ≤ B := by omega
  rw [← hB] at H1 ⊢
  clear h1 hb hB
  go_wp2_with fail
  go_loopw [5] (fun i wr => ∃ k : Nat, k ≤ l.length ∧ i = .int .i64 k ∧ okTo l k ∧ Rh wr B B (stAt l k) ∧ Below w.heap.size w wr ∧ B < wr.heap.size) (fun i _ => l.length - (intOf i).toNat)
  case atStart => exact ⟨0, Nat.zero_le _, rfl, okTo_zero l, H1.out, HB1.out, by obtain ⟨v, h, _⟩ := H1.out.val; exact h.lt⟩
  case round =>
    clear H1 HB1
    obtain ⟨k, hk, rfl, hok, hH, hb, hBw⟩ := hrel
    have OK := Lib.hid hok
    have H := Lib.hid hH
    have HB := Lib.hid hb
    have HD := Lib.hid (HI.out.below hb)
    clear hok hH hb
    by_cases hlt : k < l.length
    · obtain ⟨g, off, rfl, hc⟩ := HD.out (by intro e; rw [e] at hlt; simp at hlt)
      obtain ⟨d, hd⟩ : ∃ d, l[k]? = some d := ⟨_, List.getElem?_eq_getElem hlt⟩
      obtain ⟨c0, c1, c2, c3⟩ := hc k d hd
      have HDK := Lib.hid hd
      have hsl := stAt_len l k
      have h0 : (0 : Int) ≤ (k : Int) := by omega
      have h1 : (k : Int) < (l.length : Int) := by omega
      clear hc hd HD
      obtain ⟨dk, d0, d1, d2⟩ := d
      dsimp only at c0 c1 c2 c3
      go_wp2_with fail
      refine (rdo_any B B (stAt l k) (dk, d0, d1, d2) _ H.out (by omega) (by omega)).mono ?_
      rintro e w2 ⟨rfl, hH2, hg⟩
      have H2 := Lib.hid hH2
      have HB2 := Lib.hid (show Below w.heap.size w w2 from HB.out.grown hg HB.out.size (fun g e => by cases e; exact hBl))
      have hBw2 : B < w2.heap.size := Nat.lt_of_lt_of_le hBw hg.size
      clear hH2 hg c0 c1 c2 c3
      by_cases he : doE (stAt l k) (dk, d0, d1, d2) = 0
      · have hne : (doE (stAt l k) (dk, d0, d1, d2) != 0) = false := by simpa using he
        have OK2 := Lib.hid (okTo_succ OK.out HDK.out he)
        have ST := Lib.hid (stAt_succ HDK.out)
        clear he
        go_wp2_with fail
        go_roundw
        case rel => exact ⟨k + 1, by omega, by go_num, OK2.out, by rw [ST.out]; exact H2.out, HB2.out, hBw2⟩
        case measure => simp [intOf]; omega
      · have hne : (doE (stAt l k) (dk, d0, d1, d2) != 0) = true := by simpa using he
        have PR := Lib.hid (playR_bad OK.out HDK.out he)
        clear he
        go_wp2_with fail
        go_ret2
        exact ⟨retPlay PR.out, HB2.out⟩
    · obtain rfl : k = l.length := by omega
      have PR := Lib.hid (playR_ok OK.out)
      clear HD
      go_wp2_with fail
      go_ret2
      exact ⟨retPlay PR.out, HB.out⟩

set_option maxHeartbeats 400000 in
theorem plays_any (at_ e_ : Int) (l : List Dd) (a : Option Addr) (len cap : Nat) (r : Bool) (w : World) (hn : l.length = len) (hl : l.length ≤ 1000) (hw : WfD l) (hI : IsDeeds w a l) (hr : (decide ((playR l).1 = at_) && decide ((playR l).2 = e_)) = r) :
    Calls Try.prog 43 #[.int .i64 at_, .int .i64 e_, .slice a len cap] w fun e w' => e = .returned (.bool r) ∧ Below w.heap.size w w' := by
  subst hn
  have hp := play_any l a cap w (by unfold maxLen; omega) hw hI
  clear hI hw
  by_cases h1 : (playR l).1 = at_
  · have q1 : ((playR l).1 == at_) = true := by simpa using h1
    by_cases h2 : (playR l).2 = e_
    · have q2 : ((playR l).2 == e_) = true := by simpa using h2
      have HR := Lib.hid (show true = r by rw [← hr]; simp [h1, h2])
      clear h1 h2 hr
      generalize (playR l).1 = p1 at *
      generalize (playR l).2 = p2 at *
      go_enter Try.func43, Try.ntmps43
      go_wp2_with fail
      refine hp.mono ?_
      rintro e w1 ⟨rfl, hb⟩
      go_wp2_with fail
      go_ret
      exact ⟨retB HR.out, hb⟩
    · have q2 : ((playR l).2 == e_) = false := by simpa using h2
      have HR := Lib.hid (show false = r by rw [← hr]; simp [h1, h2])
      clear h1 h2 hr
      generalize (playR l).1 = p1 at *
      generalize (playR l).2 = p2 at *
      go_enter Try.func43, Try.ntmps43
      go_wp2_with fail
      refine hp.mono ?_
      rintro e w1 ⟨rfl, hb⟩
      go_wp2_with fail
      go_ret
      exact ⟨retB HR.out, hb⟩
  · have q1 : ((playR l).1 == at_) = false := by simpa using h1
    have HR := Lib.hid (show false = r by rw [← hr]; simp [h1])
    clear h1 hr
    generalize (playR l).1 = p1 at *
    generalize (playR l).2 = p2 at *
    go_enter Try.func43, Try.ntmps43
    go_wp2_with fail
    refine hp.mono ?_
    rintro e w1 ⟨rfl, hb⟩
    go_wp2_with fail
    go_ret
    exact ⟨retB HR.out, hb⟩
end Go.Proofs.Ythmkmjoeceghiaa
