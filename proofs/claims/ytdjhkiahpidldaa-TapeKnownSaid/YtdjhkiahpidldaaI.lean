/- What a script may be; the walks over Check and the reference's Check. -/
import Derived.Test.YtdjhkiahpidldaaF
import Derived.Laws.OwnMore
namespace Go.Proofs.Ytdjhkiahpidldaa
open Go.RowKit

attribute [local go_sem ↓] Go.wp_at_zero Go.wp_at_succ
def win (n a b : Int) : Bool := decide (a ≤ n) && decide (n ≤ b)
def mayC (c : Cl) : Bool := win c.1 0 13 && (win c.2.1 0 255 && (win c.2.2.1 0 65535 && win c.2.2.2 0 255))
def listB (l : List Cl) : Bool := decide (l.length ≤ 64) && l.all mayC
def validB (s : Scr) : Bool := win s.cpus 1 8 && (win s.pages 1 1024 && (decide ((s.calls.length : Int) = s.cpus) && (decide (s.picks.length ≤ 4096) && (s.calls.all listB && s.picks.all fun n => win n 0 255))))
def chkE (s : Scr) : Int := if validB s = true then 0 else 2
theorem win_t {n a b : Int} (h : win n a b = true) : a ≤ n ∧ n ≤ b := by simpa [win] using h
theorem win_f {n a b : Int} (h : win n a b = false) : n < a ∨ a ≤ n ∧ b < n := by
  simp [win] at h
  by_cases h1 : a ≤ n
  · exact .inr ⟨h1, h h1⟩
  · exact .inl (by omega)
set_option maxHeartbeats 400000 in
theorem win29_at (n a b : Int) (r : Bool) (w : World) (h : win n a b = r) : Calls Try.prog 29 #[.int .i64 n, .int .i64 a, .int .i64 b] w fun e w' => e = .returned (.bool r) ∧ w = w' := by
  cases r with
  | true =>
    obtain ⟨h1, h2⟩ := win_t h
    clear h
    go_enter Try.func29, Try.ntmps29
    go_wp2_with fail
    go_ret
    exact ⟨rfl, rfl⟩
  | false =>
    rcases win_f h with h1 | ⟨h1, h2⟩
    · clear h
      have : ¬ a ≤ n := by omega
      go_enter Try.func29, Try.ntmps29
      go_wp2_with fail
      go_ret
      exact ⟨rfl, rfl⟩
    · clear h
      have : ¬ n ≤ b := by omega
      go_enter Try.func29, Try.ntmps29
      go_wp2_with fail
      go_ret
      exact ⟨rfl, rfl⟩
set_option maxHeartbeats 400000 in
theorem win35_at (n a b : Int) (r : Bool) (w : World) (h : win n a b = r) : Calls Try.prog 35 #[.int .i64 n, .int .i64 a, .int .i64 b] w fun e w' => e = .returned (.bool r) ∧ w = w' := by
  cases r with
  | true =>
    obtain ⟨h1, h2⟩ := win_t h
    clear h
    go_enter Try.func35, Try.ntmps35
    go_wp2_with fail
    go_ret
    exact ⟨rfl, rfl⟩
  | false =>
    rcases win_f h with h1 | ⟨h1, h2⟩
    · clear h
      have : ¬ a ≤ n := by omega
      go_enter Try.func35, Try.ntmps35
      go_wp2_with fail
      go_ret
      exact ⟨rfl, rfl⟩
    · clear h
      have : ¬ n ≤ b := by omega
      go_enter Try.func35, Try.ntmps35
      go_wp2_with fail
      go_ret
      exact ⟨rfl, rfl⟩

set_option maxRecDepth 100000 in
set_option maxHeartbeats 400000 in
theorem may_any (x0 x1 x2 x3 : Int) (w : World) : Calls Try.prog 32 #[.agg #[.int .i64 x0, .int .i64 x1, .int .i64 x2, .int .i64 x3]] w fun e w' => e = .returned (.bool (mayC (x0, x1, x2, x3))) ∧ Below w.heap.size w w' := by
  have hb := (Below.refl w.heap.size w).alloc (Nat.le_refl _) (.cells #[.int .i64 x0, .int .i64 x1, .int .i64 x2, .int .i64 x3] 44)
  have HB := Lib.hid hb
  clear hb
  obtain ⟨b0, hb0⟩ : ∃ b, win x0 0 13 = b := ⟨_, rfl⟩
  obtain ⟨b1, hb1⟩ : ∃ b, win x1 0 255 = b := ⟨_, rfl⟩
  obtain ⟨b2, hb2⟩ : ∃ b, win x2 0 65535 = b := ⟨_, rfl⟩
  obtain ⟨b3, hb3⟩ : ∃ b, win x3 0 255 = b := ⟨_, rfl⟩
  have hR : Hid (mayC (x0, x1, x2, x3) = (b0 && (b1 && (b2 && b3)))) := by unfold mayC; rw [hb0, hb1, hb2, hb3]; exact rfl
  have H0 := Lib.hid hb0
  have H1 := Lib.hid hb1
  have H2 := Lib.hid hb2
  have H3 := Lib.hid hb3
  clear hb0 hb1 hb2 hb3
  cases b0 with
  | false =>
    go_enter Try.func32, Try.ntmps32
    go_wp2_with fail
    refine (win29_at _ _ _ _ _ H0.out).mono ?_
    rintro e wz ⟨rfl, rfl⟩
    go_wp2_with fail
    go_ret
    exact ⟨retB hR.out.symm, HB.out⟩
  | true => cases b1 with
    | false =>
      go_enter Try.func32, Try.ntmps32
      go_wp2_with fail
      refine (win29_at _ _ _ _ _ H0.out).mono ?_
      rintro e wz ⟨rfl, rfl⟩
      go_wp2_with fail
      refine (win29_at _ _ _ _ _ H1.out).mono ?_
      rintro e wz ⟨rfl, rfl⟩
      go_wp2_with fail
      go_ret
      exact ⟨retB hR.out.symm, HB.out⟩
    | true => cases b2 with
      | false =>
        go_enter Try.func32, Try.ntmps32
        go_wp2_with fail
        refine (win29_at _ _ _ _ _ H0.out).mono ?_
        rintro e wz ⟨rfl, rfl⟩
        go_wp2_with fail
        refine (win29_at _ _ _ _ _ H1.out).mono ?_
        rintro e wz ⟨rfl, rfl⟩
        go_wp2_with fail
        refine (win29_at _ _ _ _ _ H2.out).mono ?_
        rintro e wz ⟨rfl, rfl⟩
        go_wp2_with fail
        go_ret
        exact ⟨retB hR.out.symm, HB.out⟩
      | true =>
        go_enter Try.func32, Try.ntmps32
        go_wp2_with fail
        refine (win29_at _ _ _ _ _ H0.out).mono ?_
        rintro e wz ⟨rfl, rfl⟩
        go_wp2_with fail
        refine (win29_at _ _ _ _ _ H1.out).mono ?_
        rintro e wz ⟨rfl, rfl⟩
        go_wp2_with fail
        refine (win29_at _ _ _ _ _ H2.out).mono ?_
        rintro e wz ⟨rfl, rfl⟩
        go_wp2_with fail
        refine (win29_at _ _ _ _ _ H3.out).mono ?_
        rintro e wz ⟨rfl, rfl⟩
        go_wp2_with fail
        go_ret
        exact ⟨retB hR.out.symm, HB.out⟩
set_option maxHeartbeats 400000 in
theorem mayf_any (x0 x1 x2 x3 : Int) (w : World) : Calls Try.prog 31 #[.agg #[.int .i64 x0, .int .i64 x1, .int .i64 x2, .int .i64 x3]] w fun e w' => e = .returned (.bool (!mayC (x0, x1, x2, x3))) ∧ Below w.heap.size w w' := by
  have hb := (Below.refl w.heap.size w).alloc (Nat.le_refl _) (.cells #[.int .i64 x0, .int .i64 x1, .int .i64 x2, .int .i64 x3] 44)
  have HB := Lib.hid hb
  clear hb
  go_enter Try.func31, Try.ntmps31
  go_wp2_with fail
  refine (may_any x0 x1 x2 x3 _).mono ?_
  rintro e w1 ⟨rfl, h⟩
  go_wp2_with fail
  go_ret
  exact ⟨rfl, on HB.out h⟩
set_option maxHeartbeats 400000 in
theorem pickf_any (n : Int) (w : World) : Calls Try.prog 34 #[.int .i64 n] w fun e w' => e = .returned (.bool (!win n 0 255)) ∧ w = w' := by
  go_enter Try.func34, Try.ntmps34
  go_wp2_with fail
  refine (win29_at n 0 255 _ _ rfl).mono ?_
  rintro e w1 ⟨rfl, rfl⟩
  go_wp2_with fail
  go_ret
  exact ⟨rfl, rfl⟩
end Go.Proofs.Ytdjhkiahpidldaa
