/- PickTells, PickGaps. -/
import Derived.Test.YtlndhdficackcaaG
import Derived.Test.YtlndhdficackcaaO
namespace Go.Proofs.Ytlndhdficackcaa
open Go.RowKit Go.Shelf

set_option maxRecDepth 100000 in
set_option maxHeartbeats 1000000 in
theorem picktells_any (bs : List Bool) (a : Option Addr) (cap : Nat) (n : Int) (w : World) (hI : IsSl encB w a bs) (hbs : bs.length ≤ 17592186044416) (hn : -9223372036854775808 ≤ n ∧ n ≤ 9223372036854775807) :
    Calls Try.prog 3 #[.slice a bs.length cap, .int .i64 n] w fun e w' => e = .returned (.bool true) ∧ Below w.heap.size w w' := by
  have HI := Lib.hid hI
  have HW := Below.refl w.heap.size w
  clear hI
  go_enter Try.func3, Try.ntmps3
  go_wp2_with fail
  refine (pick_any bs a cap n _ HI.out hbs).mono ?_
  rintro e w1 ⟨rfl, hb⟩; replace HW := on HW hb; clear hb
  go_wp2_with fail
  refine (rpick_any bs a cap n _ (HI.out.below HW) hbs).mono ?_
  rintro e w2 ⟨rfl, hb⟩; replace HW := on HW hb; clear hb
  go_wp2_with fail
  refine (next_any bs a cap n _ (HI.out.below HW) hbs).mono ?_
  rintro e w3 ⟨rfl, hb⟩; replace HW := on HW hb; clear hb
  go_wp2_with fail
  refine (rnext_any bs a cap n _ (HI.out.below HW) hbs hn).mono ?_
  rintro e w4 ⟨rfl, rfl⟩
  go_wp2_with fail
  refine (works_any _).mono ?_
  rintro e w5 ⟨rfl, hb⟩; replace HW := on HW hb; clear hb
  go_wp2_with fail
  go_ret
  exact ⟨rfl, HW⟩

theorem rgap_at (xs : List Int) (a : Option Addr) (cap : Nat) (cpu : Int) (len : Nat) (r : Int) (w : World) (hx : IsSl encI w a xs) (hl : xs.length = len) (h : (gap xs cpu : Int) = r) :
    Calls Try.prog 15 #[.slice a len cap, .int .i64 cpu] w fun e w' => e = .returned (.int .i64 r) ∧ w = w' := by
  subst hl h; exact rgap_any xs a cap cpu w hx
theorem rfair_at (xs : List Int) (a : Option Addr) (cap : Nat) (c n : Int) (len : Nat) (r : Bool) (w : World) (hx : IsSl encI w a xs) (hl : xs.length = len) (h : fairB xs c n = r) :
    Calls Try.prog 17 #[.slice a len cap, .int .i64 c, .int .i64 n] w fun e w' => e = .returned (.bool r) ∧ w = w' := by
  subst hl h; exact rfair_any xs a cap c n w hx

set_option maxRecDepth 100000 in
set_option maxHeartbeats 1000000 in
theorem pickgaps_any (xs : List Int) (a : Option Addr) (cap : Nat) (n0 n1 : Int) (w : World) (hI : IsSl encI w a xs) (hcap : xs.length ≤ cap) (hcm : cap ≤ 9223372036854775807) (hnil : a = none → cap = 0) :
    Calls Try.prog 4 #[.slice a xs.length cap, .agg #[.int .i64 n0, .int .i64 n1]] w fun e w' => e = .returned (.bool true) ∧ Below w.heap.size w w' := by
  have HI := Lib.hid hI
  have hlen := hI.len
  clear hI
  cases a with
  | none =>
    obtain rfl : xs = [] := by
      rcases List.eq_nil_or_concat xs with h | ⟨l, x, hx⟩
      · exact h
      · obtain ⟨b, off, hh, _⟩ := HI.out.2 (by rw [hx]; simp)
        cases hh
    obtain rfl := hnil rfl
    clear hnil
    go_enter Try.func4, Try.ntmps4
    go_wp2_with fail
    obtain ⟨W, hW⟩ : ∃ W, w.alloc (.cells #[.int .i64 n0, .int .i64 n1] 28) = W := ⟨_, rfl⟩
    have c0 : W.cell? ⟨w.heap.size, 0, none⟩ = some (.int .i64 n0) := by rw [← hW]; simp
    have c1 : W.cell? ⟨w.heap.size, 1, none⟩ = some (.int .i64 n1) := by rw [← hW]; simp
    have hbW : Below w.heap.size w W := by rw [← hW]; exact (by repeat (first | exact Below.refl _ _ | assumption | refine Below.setCell ?_ (by first | omega | (simp; done) | (simp; omega)) _ | refine Below.drew ?_ | refine Below.alloc ?_ (by first | omega | (simp; done) | (simp; omega)) _ | refine Below.trans ?_ (Below.mono (by assumption) (by first | omega | (simp; done) | (simp; omega)))))
    have S := Lib.hid (HI.out.below hbW)
    rw [hW]
    clear hW HI
    have k0 := fun d os => cell_regrown c0 d os
    have k1 := fun d os => cell_regrown c1 d os
    clear c0 c1
    refine wp_region_quiet_below (by kernel_rfl) (by kernel_rfl) ?_
    repeat (quiet_step (first | (go_at_call 14; exact Calls.regrown_of ((gap_at (([] : List Int)) _ 0 n0 0 _ _ (S.out.below (below_regrown W _ _)) rfl rfl).mono fun e w' ⟨h1, h2⟩ => ⟨h1, h2 ▸ Below.refl _ _⟩)) | (go_at_call 15; exact Calls.regrown_of ((rgap_at (([] : List Int)) _ 0 n0 0 _ _ (S.out.below (below_regrown W _ _)) rfl rfl).mono fun e w' ⟨h1, h2⟩ => ⟨h1, h2 ▸ Below.refl _ _⟩)) | (go_at_call 16; exact Calls.regrown_of ((fair_at (([] : List Int)) _ 0 n0 n1 0 _ _ (S.out.below (below_regrown W _ _)) rfl rfl).mono fun e w' ⟨h1, h2⟩ => ⟨h1, h2 ▸ Below.refl _ _⟩)) | (go_at_call 17; exact Calls.regrown_of ((rfair_at (([] : List Int)) _ 0 n0 n1 0 _ _ (S.out.below (below_regrown W _ _)) rfl rfl).mono fun e w' ⟨h1, h2⟩ => ⟨h1, h2 ▸ Below.refl _ _⟩)) | (go_at_call 13; exact Calls.regrown_of (works_any _))))
    refine wpQuiet_nil ?_
    intro _ hw'
    obtain ⟨⟨dq, osq⟩, hw''⟩ := hw'
    subst hw''
    go_wp2
    go_ret
    exact ⟨rfl, hbW.trans ((below_regrown W dq osq).mono hbW.size)⟩
  | some ad =>
    obtain ⟨b, off, sp⟩ := ad
    clear hnil
    by_cases h500 : 500 < xs.length
    · have hL : (xs.take 500).length = 500 := by rw [List.length_take]; omega
      have HL := Lib.hid hL
      clear hL
      go_enter Try.func4, Try.ntmps4
      go_wp2_with fail
      have hL := HL.out
      obtain ⟨W, hW⟩ : ∃ W, w.alloc (.cells #[.int .i64 n0, .int .i64 n1] 28) = W := ⟨_, rfl⟩
      have c0 : W.cell? ⟨w.heap.size, 0, none⟩ = some (.int .i64 n0) := by rw [← hW]; simp
      have c1 : W.cell? ⟨w.heap.size, 1, none⟩ = some (.int .i64 n1) := by rw [← hW]; simp
      have hbW : Below w.heap.size w W := by rw [← hW]; exact (by repeat (first | exact Below.refl _ _ | assumption | refine Below.setCell ?_ (by first | omega | (simp; done) | (simp; omega)) _ | refine Below.drew ?_ | refine Below.alloc ?_ (by first | omega | (simp; done) | (simp; omega)) _ | refine Below.trans ?_ (Below.mono (by assumption) (by first | omega | (simp; done) | (simp; omega)))))
      have S := Lib.hid ((HI.out.below hbW).take 500)
      rw [hW]
      clear hW HI
      have k0 := fun d os => cell_regrown c0 d os
      have k1 := fun d os => cell_regrown c1 d os
      clear c0 c1
      refine wp_region_quiet_below (by kernel_rfl) (by kernel_rfl) ?_
      repeat (quiet_step (first | (go_at_call 14; exact Calls.regrown_of ((gap_at (xs.take 500) _ cap n0 500 _ _ (S.out.below (below_regrown W _ _)) hL rfl).mono fun e w' ⟨h1, h2⟩ => ⟨h1, h2 ▸ Below.refl _ _⟩)) | (go_at_call 15; exact Calls.regrown_of ((rgap_at (xs.take 500) _ cap n0 500 _ _ (S.out.below (below_regrown W _ _)) hL rfl).mono fun e w' ⟨h1, h2⟩ => ⟨h1, h2 ▸ Below.refl _ _⟩)) | (go_at_call 16; exact Calls.regrown_of ((fair_at (xs.take 500) _ cap n0 n1 500 _ _ (S.out.below (below_regrown W _ _)) hL rfl).mono fun e w' ⟨h1, h2⟩ => ⟨h1, h2 ▸ Below.refl _ _⟩)) | (go_at_call 17; exact Calls.regrown_of ((rfair_at (xs.take 500) _ cap n0 n1 500 _ _ (S.out.below (below_regrown W _ _)) hL rfl).mono fun e w' ⟨h1, h2⟩ => ⟨h1, h2 ▸ Below.refl _ _⟩)) | (go_at_call 13; exact Calls.regrown_of (works_any _))))
      refine wpQuiet_nil ?_
      intro _ hw'
      obtain ⟨⟨dq, osq⟩, hw''⟩ := hw'
      subst hw''
      go_wp2
      go_ret
      exact ⟨rfl, hbW.trans ((below_regrown W dq osq).mono hbW.size)⟩
    · go_enter Try.func4, Try.ntmps4
      go_wp2_with fail
      obtain ⟨W, hW⟩ : ∃ W, w.alloc (.cells #[.int .i64 n0, .int .i64 n1] 28) = W := ⟨_, rfl⟩
      have c0 : W.cell? ⟨w.heap.size, 0, none⟩ = some (.int .i64 n0) := by rw [← hW]; simp
      have c1 : W.cell? ⟨w.heap.size, 1, none⟩ = some (.int .i64 n1) := by rw [← hW]; simp
      have hbW : Below w.heap.size w W := by rw [← hW]; exact (by repeat (first | exact Below.refl _ _ | assumption | refine Below.setCell ?_ (by first | omega | (simp; done) | (simp; omega)) _ | refine Below.drew ?_ | refine Below.alloc ?_ (by first | omega | (simp; done) | (simp; omega)) _ | refine Below.trans ?_ (Below.mono (by assumption) (by first | omega | (simp; done) | (simp; omega)))))
      have S := Lib.hid (HI.out.below hbW)
      rw [hW]
      clear hW HI
      have k0 := fun d os => cell_regrown c0 d os
      have k1 := fun d os => cell_regrown c1 d os
      clear c0 c1
      refine wp_region_quiet_below (by kernel_rfl) (by kernel_rfl) ?_
      repeat (quiet_step (first | (go_at_call 14; exact Calls.regrown_of ((gap_at (xs) _ cap n0 xs.length _ _ (S.out.below (below_regrown W _ _)) rfl rfl).mono fun e w' ⟨h1, h2⟩ => ⟨h1, h2 ▸ Below.refl _ _⟩)) | (go_at_call 15; exact Calls.regrown_of ((rgap_at (xs) _ cap n0 xs.length _ _ (S.out.below (below_regrown W _ _)) rfl rfl).mono fun e w' ⟨h1, h2⟩ => ⟨h1, h2 ▸ Below.refl _ _⟩)) | (go_at_call 16; exact Calls.regrown_of ((fair_at (xs) _ cap n0 n1 xs.length _ _ (S.out.below (below_regrown W _ _)) rfl rfl).mono fun e w' ⟨h1, h2⟩ => ⟨h1, h2 ▸ Below.refl _ _⟩)) | (go_at_call 17; exact Calls.regrown_of ((rfair_at (xs) _ cap n0 n1 xs.length _ _ (S.out.below (below_regrown W _ _)) rfl rfl).mono fun e w' ⟨h1, h2⟩ => ⟨h1, h2 ▸ Below.refl _ _⟩)) | (go_at_call 13; exact Calls.regrown_of (works_any _))))
      refine wpQuiet_nil ?_
      intro _ hw'
      obtain ⟨⟨dq, osq⟩, hw''⟩ := hw'
      subst hw''
      go_wp2
      go_ret
      exact ⟨rfl, hbW.trans ((below_regrown W dq osq).mono hbW.size)⟩

theorem pickgaps_arg {xs : List Int} {a : Option Addr} {len cap : Nat} {n0 n1 : Int} {w : World} (A : ArgSl encI w a len cap xs) :
    Calls Try.prog 4 #[.slice a len cap, .agg #[.int .i64 n0, .int .i64 n1]] w fun e w' => e = .returned (.bool true) ∧ Below w.heap.size w w' := by
  have := pickgaps_any xs a cap n0 n1 w A.hsl (by rw [A.hlen]; exact A.hle) A.hmax A.hnil
  rwa [A.hlen] at this
theorem picktells_arg {bs : List Bool} {a : Option Addr} {len cap : Nat} {n : Int} {w : World} (A : ArgSl encB w a len cap bs) (hl : len ≤ 17592186044416) (hn : -9223372036854775808 ≤ n ∧ n ≤ 9223372036854775807) :
    Calls Try.prog 3 #[.slice a len cap, .int .i64 n] w fun e w' => e = .returned (.bool true) ∧ Below w.heap.size w w' := by
  have := picktells_any bs a cap n w A.hsl (by rw [A.hlen]; exact hl) hn
  rwa [A.hlen] at this
end Go.Proofs.Ytlndhdficackcaa
