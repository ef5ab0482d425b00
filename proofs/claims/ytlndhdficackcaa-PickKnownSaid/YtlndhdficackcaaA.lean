/- The walks over pick's Gap and Fair, and their references'. -/
import Derived.Test.YtlndhdficackcaaK
namespace Go.Proofs.Ytlndhdficackcaa
open Go.RowKit

abbrev encI : Int → Value := .int .i64

/-- most, now -/
def gstep (cpu : Int) (s : Nat × Nat) (c : Int) : Nat × Nat :=
  let now := if c = cpu then 0 else s.2 + 1
  (max s.1 now, now)
def gst (xs : List Int) (cpu : Int) : Nat × Nat := xs.foldl (gstep cpu) (0, 0)
def gap (xs : List Int) (cpu : Int) : Nat := (gst xs cpu).1
theorem gst_snoc (xs : List Int) (c cpu : Int) : gst (xs ++ [c]) cpu = gstep cpu (gst xs cpu) c := by simp [gst]
theorem gstep_hit {s1 s2 : Nat} {c cpu : Int} (h : c = cpu) : gstep cpu (s1, s2) c = (s1, 0) := by simp [gstep, h]
theorem gstep_up {s1 s2 : Nat} {c cpu : Int} (h : c ≠ cpu) (hm : s1 < s2 + 1) : gstep cpu (s1, s2) c = (s2 + 1, s2 + 1) := by simp only [gstep, if_neg h]; rw [Nat.max_eq_right (by omega)]
theorem gstep_stay {s1 s2 : Nat} {c cpu : Int} (h : c ≠ cpu) (hm : ¬ s1 < s2 + 1) : gstep cpu (s1, s2) c = (s1, s2 + 1) := by simp only [gstep, if_neg h]; rw [Nat.max_eq_left (by omega)]
theorem gst_le (xs : List Int) (cpu : Int) : (gst xs cpu).1 ≤ xs.length ∧ (gst xs cpu).2 ≤ xs.length := by
  suffices h : ∀ (l : List Int) (s : Nat × Nat) (n : Nat), s.1 ≤ n → s.2 ≤ n → (l.foldl (gstep cpu) s).1 ≤ n + l.length ∧ (l.foldl (gstep cpu) s).2 ≤ n + l.length by
    simpa [gst] using h xs (0, 0) 0 (by simp) (by simp)
  intro l
  induction l with
  | nil => intro s n h1 h2; simp; omega
  | cons c l ih =>
    intro s n h1 h2
    have hn : (if c = cpu then 0 else s.2 + 1) ≤ n + 1 := by split <;> omega
    have := ih (gstep cpu s c) (n + 1) (by simp only [gstep]; omega) (by simp only [gstep]; omega)
    simp only [List.foldl_cons, List.length_cons]
    omega

set_option maxHeartbeats 400000 in
theorem gap_any (xs : List Int) (a : Option Addr) (cap : Nat) (cpu : Int) (w : World) (hx : IsSl encI w a xs) :
    Calls Try.prog 14 #[.slice a xs.length cap, .int .i64 cpu] w fun e w' => e = .returned (.int .i64 (gap xs cpu)) ∧ w = w' := by
  have hlen := hx.len
  go_enter Try.func14, Try.ntmps14
  go_wp2_with fail
  go_loop [4, 5, 10] (fun m f i => ∃ k : Nat, k ≤ xs.length ∧ i = .int .i64 k ∧ m = .int .i64 (gst (xs.take k) cpu).1 ∧ f = .int .i64 (k - (gst (xs.take k) cpu).2 : Int)) (fun _ _ i => xs.length - (intOf i).toNat)
  case atStart => exact ⟨0, by omega, rfl, by simp [gst], by simp [gst]⟩
  case round =>
    obtain ⟨k, hk, rfl, rfl, rfl⟩ := hrel
    by_cases hlt : k < xs.length
    · obtain ⟨b, off, x, rfl, hxk, hc⟩ := hx.at hlt
      have hs : Hid (gst (xs.take (k + 1)) cpu = gstep cpu (gst (xs.take k) cpu) x) := by rw [take_succ hxk]; exact gst_snoc _ _ _
      have hle := gst_le (xs.take k) cpu
      have hl := List.length_take_le k xs
      have HX := Lib.hid hx
      have HK := Lib.hid hxk
      clear hx hxk
      generalize gst (xs.take k) cpu = s at hs hle
      obtain ⟨s1, s2⟩ := s
      simp only at hle
      by_cases he : x = cpu
      · have he' : (x == cpu) = true := by simpa using he
        have hh : Hid (gst (xs.take (k + 1)) cpu = (s1, 0)) := hs.out.trans (gstep_hit he)
        clear he hs
        go_wp2_with fail
        go_round
        case rel => exact ⟨k + 1, by omega, by go_num, by rw [hh.out], by rw [hh.out]; go_num⟩
        case measure => simp [intOf]; omega
      · have he' : (x == cpu) = false := by simpa using he
        by_cases hm : s1 < s2 + 1
        · have hh : Hid (gst (xs.take (k + 1)) cpu = (s2 + 1, s2 + 1)) := hs.out.trans (gstep_up he hm)
          clear he hs
          go_wp2_with fail
          go_round
          case rel => exact ⟨k + 1, by omega, by go_num, by rw [hh.out]; go_num, by rw [hh.out]; go_num⟩
          case measure => simp [intOf]; omega
        · have hh : Hid (gst (xs.take (k + 1)) cpu = (s1, s2 + 1)) := hs.out.trans (gstep_stay he hm)
          clear he hs
          go_wp2_with fail
          go_round
          case rel => exact ⟨k + 1, by omega, by go_num, by rw [hh.out], by rw [hh.out]; go_num⟩
          case measure => simp [intOf]; omega
    · obtain rfl : k = xs.length := by omega
      go_wp2_with fail
      go_ret
      exact ⟨ret1 rfl, rfl⟩

set_option maxHeartbeats 400000 in
theorem rgap_any (xs : List Int) (a : Option Addr) (cap : Nat) (cpu : Int) (w : World) (hx : IsSl encI w a xs) :
    Calls Try.prog 15 #[.slice a xs.length cap, .int .i64 cpu] w fun e w' => e = .returned (.int .i64 (gap xs cpu)) ∧ w = w' := by
  have hlen := hx.len
  go_enter Try.func15, Try.ntmps15
  go_wp2_with fail
  go_loop [5, 6, 7] (fun m f i => ∃ k : Nat, k ≤ xs.length ∧ i = .int .i64 k ∧ m = .int .i64 (gst (xs.take k) cpu).1 ∧ f = .int .i64 (gst (xs.take k) cpu).2) (fun _ _ i => xs.length - (intOf i).toNat)
  case atStart => exact ⟨0, by omega, rfl, by simp [gst], by simp [gst]⟩
  case round =>
    obtain ⟨k, hk, rfl, rfl, rfl⟩ := hrel
    by_cases hlt : k < xs.length
    · obtain ⟨b, off, x, rfl, hxk, hc⟩ := hx.at hlt
      have hs : Hid (gst (xs.take (k + 1)) cpu = gstep cpu (gst (xs.take k) cpu) x) := by rw [take_succ hxk]; exact gst_snoc _ _ _
      have hle := gst_le (xs.take k) cpu
      have hl := List.length_take_le k xs
      have HX := Lib.hid hx
      have HK := Lib.hid hxk
      clear hx hxk
      generalize gst (xs.take k) cpu = s at hs hle
      obtain ⟨s1, s2⟩ := s
      simp only at hle
      by_cases he : x = cpu
      · have he' : (x == cpu) = true := by simpa using he
        have hh : Hid (gst (xs.take (k + 1)) cpu = (s1, 0)) := hs.out.trans (gstep_hit he)
        clear he hs
        go_wp2_with fail
        all_goals
          go_round
          case rel => exact ⟨k + 1, by omega, by go_num, by rw [hh.out], by rw [hh.out]; go_num⟩
          case measure => simp [intOf]; omega
      · have he' : (x == cpu) = false := by simpa using he
        by_cases hm : s1 < s2 + 1
        · have hh : Hid (gst (xs.take (k + 1)) cpu = (s2 + 1, s2 + 1)) := hs.out.trans (gstep_up he hm)
          clear he hs
          go_wp2_with fail
          go_round
          case rel => exact ⟨k + 1, by omega, by go_num, by rw [hh.out]; go_num, by rw [hh.out]; go_num⟩
          case measure => simp [intOf]; omega
        · have hh : Hid (gst (xs.take (k + 1)) cpu = (s1, s2 + 1)) := hs.out.trans (gstep_stay he hm)
          clear he hs
          go_wp2_with fail
          go_round
          case rel => exact ⟨k + 1, by omega, by go_num, by rw [hh.out], by rw [hh.out]; go_num⟩
          case measure => simp [intOf]; omega
    · obtain rfl : k = xs.length := by omega
      go_wp2_with fail
      go_ret
      exact ⟨ret1 rfl, rfl⟩

/-- what Fair answers: k of the processors have been looked at -/
def fairTo (xs : List Int) (window : Int) (k : Nat) : Prop := ∀ c : Nat, c < k → (gap xs c : Int) < window
def fairB (xs : List Int) (cpus window : Int) : Bool :=
  if cpus < 1 ∨ 8 < cpus ∨ window < 1 then false else if (xs.length : Int) < window then true else (List.range cpus.toNat).all fun c => decide ((gap xs c : Int) < window)
theorem fair_bad {xs : List Int} {cpus window : Int} (h : cpus < 1 ∨ 8 < cpus ∨ window < 1) : fairB xs cpus window = false := by unfold fairB; rw [if_pos h]
theorem fair_short {xs : List Int} {cpus window : Int} (h : 1 ≤ cpus ∧ cpus ≤ 8 ∧ 1 ≤ window) (h' : (xs.length : Int) < window) : fairB xs cpus window = true := by unfold fairB; rw [if_neg (by omega), if_pos h']
theorem fair_no {xs : List Int} {n : Nat} {window : Int} (h : 1 ≤ n ∧ n ≤ 8 ∧ 1 ≤ window) (h' : window ≤ (xs.length : Int)) {c : Nat} (hc : c < n) (hg : window ≤ (gap xs c : Int)) : fairB xs n window = false := by
  unfold fairB
  rw [if_neg (by omega), if_neg (by omega), List.all_eq_false]
  exact ⟨c, by simpa using hc, by simpa using hg⟩
theorem fair_yes {xs : List Int} {n : Nat} {window : Int} (h : 1 ≤ n ∧ n ≤ 8 ∧ 1 ≤ window) (h' : window ≤ (xs.length : Int)) (hg : fairTo xs window n) : fairB xs n window = true := by
  unfold fairB
  rw [if_neg (by omega), if_neg (by omega), List.all_eq_true]
  intro c hc
  simpa using hg c (by simpa using hc)

set_option maxHeartbeats 1000000 in
theorem fair_any (xs : List Int) (a : Option Addr) (cap : Nat) (cpus window : Int) (w : World) (hx : IsSl encI w a xs) :
    Calls Try.prog 16 #[.slice a xs.length cap, .int .i64 cpus, .int .i64 window] w fun e w' => e = .returned (.bool (fairB xs cpus window)) ∧ w = w' := by
  have hlen := hx.len
  by_cases h1 : cpus < 1
  · have hh := Lib.hid (fair_bad (xs := xs) (cpus := cpus) (window := window) (.inl h1))
    go_enter Try.func16, Try.ntmps16
    go_wp2_with fail
    go_ret
    exact ⟨retB hh.out.symm, rfl⟩
  by_cases h2 : 8 < cpus
  · have hh := Lib.hid (fair_bad (xs := xs) (cpus := cpus) (window := window) (.inr (.inl h2)))
    go_enter Try.func16, Try.ntmps16
    go_wp2_with fail
    go_ret
    exact ⟨retB hh.out.symm, rfl⟩
  by_cases h3 : window < 1
  · have hh := Lib.hid (fair_bad (xs := xs) (cpus := cpus) (window := window) (.inr (.inr h3)))
    go_enter Try.func16, Try.ntmps16
    go_wp2_with fail
    go_ret
    exact ⟨retB hh.out.symm, rfl⟩
  by_cases h4 : (xs.length : Int) < window
  · have hh := Lib.hid (fair_short (xs := xs) (cpus := cpus) (window := window) ⟨by omega, by omega, by omega⟩ h4)
    go_enter Try.func16, Try.ntmps16
    go_wp2_with fail
    go_ret
    exact ⟨retB hh.out.symm, rfl⟩
  obtain ⟨n, rfl⟩ := Int.eq_ofNat_of_zero_le (show 0 ≤ cpus by omega)
  have hb : 1 ≤ n ∧ n ≤ 8 ∧ 1 ≤ window := by omega
  have hN := fun c => fair_no (xs := xs) (n := n) (window := window) hb (by omega) (c := c)
  have hY := fair_yes (xs := xs) (n := n) (window := window) hb (by omega)
  have HN := Lib.hid hN
  have HY := Lib.hid hY
  have HX := Lib.hid hx
  clear hN hY hx
  go_enter Try.func16, Try.ntmps16
  go_wp2_with fail
  go_loop [7, 23] (fun c i => ∃ k : Nat, k ≤ n ∧ i = .int .i64 k ∧ fairTo xs window k) (fun _ i => n - (intOf i).toNat)
  case atStart => exact ⟨0, by omega, rfl, fun c hc => by omega⟩
  case round =>
    obtain ⟨k, hk, rfl, hto⟩ := hrel
    by_cases hlt : k < n
    · have HT := Lib.hid hto
      have hg := gst_le xs k
      clear hto
      by_cases hge : window ≤ (gap xs k : Int)
      · have hh := Lib.hid (HN.out k hlt hge)
        go_wp2_with fail
        refine (gap_any xs a cap k _ HX.out).mono ?_
        rintro e w1 ⟨rfl, rfl⟩
        go_wp2_with fail
        go_ret
        exact ⟨retB hh.out.symm, rfl⟩
      · go_wp2_with fail
        refine (gap_any xs a cap k _ HX.out).mono ?_
        rintro e w1 ⟨rfl, rfl⟩
        go_wp2_with fail
        go_round
        case rel => exact ⟨k + 1, by omega, by go_num, fun c hc => by
          rcases Nat.lt_or_ge c k with h | h
          · exact HT.out c h
          · obtain rfl : c = k := by omega
            omega⟩
        case measure => simp [intOf]; omega
    · obtain rfl : k = n := by omega
      have hh := Lib.hid (HY.out hto)
      go_wp2_with fail
      go_ret
      exact ⟨retB hh.out.symm, rfl⟩

set_option maxHeartbeats 1000000 in
theorem rfair_any (xs : List Int) (a : Option Addr) (cap : Nat) (cpus window : Int) (w : World) (hx : IsSl encI w a xs) :
    Calls Try.prog 17 #[.slice a xs.length cap, .int .i64 cpus, .int .i64 window] w fun e w' => e = .returned (.bool (fairB xs cpus window)) ∧ w = w' := by
  have hlen := hx.len
  by_cases h1 : cpus < 1
  · have hh := Lib.hid (fair_bad (xs := xs) (cpus := cpus) (window := window) (.inl h1))
    go_enter Try.func17, Try.ntmps17
    go_wp2_with fail
    go_ret
    exact ⟨retB hh.out.symm, rfl⟩
  by_cases h2 : 8 < cpus
  · have hh := Lib.hid (fair_bad (xs := xs) (cpus := cpus) (window := window) (.inr (.inl h2)))
    go_enter Try.func17, Try.ntmps17
    go_wp2_with fail
    go_ret
    exact ⟨retB hh.out.symm, rfl⟩
  by_cases h3 : window < 1
  · have hh := Lib.hid (fair_bad (xs := xs) (cpus := cpus) (window := window) (.inr (.inr h3)))
    go_enter Try.func17, Try.ntmps17
    go_wp2_with fail
    go_ret
    exact ⟨retB hh.out.symm, rfl⟩
  by_cases h4 : (xs.length : Int) < window
  · have hh := Lib.hid (fair_short (xs := xs) (cpus := cpus) (window := window) ⟨by omega, by omega, by omega⟩ h4)
    go_enter Try.func17, Try.ntmps17
    go_wp2_with fail
    refine wp_loop_rounds 1 ?_
    rw [rounds_succ]
    go_wp2_with fail
    go_ret
    exact ⟨retB hh.out.symm, rfl⟩
  obtain ⟨n, rfl⟩ := Int.eq_ofNat_of_zero_le (show 0 ≤ cpus by omega)
  have hb : 1 ≤ n ∧ n ≤ 8 ∧ 1 ≤ window := by omega
  have hN := fun c => fair_no (xs := xs) (n := n) (window := window) hb (by omega) (c := c)
  have hY := fair_yes (xs := xs) (n := n) (window := window) hb (by omega)
  have HN := Lib.hid hN
  have HY := Lib.hid hY
  have HX := Lib.hid hx
  clear hN hY hx
  go_enter Try.func17, Try.ntmps17
  go_wp2_with fail
  go_loop [7] (fun i => ∃ k : Nat, k ≤ n ∧ i = .int .i64 k ∧ fairTo xs window k) (fun i => n - (intOf i).toNat)
  case atStart => exact ⟨0, by omega, rfl, fun c hc => by omega⟩
  case round =>
    obtain ⟨k, hk, rfl, hto⟩ := hrel
    by_cases hlt : k < n
    · have HT := Lib.hid hto
      have hg := gst_le xs k
      clear hto
      by_cases hge : window ≤ (gap xs k : Int)
      · have hh := Lib.hid (HN.out k hlt hge)
        go_wp2_with fail
        refine (rgap_any xs a cap k _ HX.out).mono ?_
        rintro e w1 ⟨rfl, rfl⟩
        go_wp2_with fail
        go_ret
        exact ⟨retB hh.out.symm, rfl⟩
      · go_wp2_with fail
        refine (rgap_any xs a cap k _ HX.out).mono ?_
        rintro e w1 ⟨rfl, rfl⟩
        go_wp2_with fail
        go_round
        case rel => exact ⟨k + 1, by omega, by go_num, fun c hc => by
          rcases Nat.lt_or_ge c k with h | h
          · exact HT.out c h
          · obtain rfl : c = k := by omega
            omega⟩
        case measure => simp [intOf]; omega
    · obtain rfl : k = n := by omega
      have hh := Lib.hid (HY.out hto)
      go_wp2_with fail
      go_ret
      exact ⟨retB hh.out.symm, rfl⟩
end Go.Proofs.Ytlndhdficackcaa
