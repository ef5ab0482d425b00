/- The walk over Check. -/
import Derived.Test.YtdjhkiahpidldaaI
namespace Go.Proofs.Ytdjhkiahpidldaa
open Go.RowKit

attribute [local go_sem ↓] Go.wp_at_zero Go.wp_at_succ
theorem all_of_at {α : Type} {p : α → Bool} {l : List α} (h : ∀ j x, j < l.length → l[j]? = some x → p x = true) : l.all p = true := by
  rw [List.all_eq_true]
  intro x hx
  obtain ⟨j, hj, rfl⟩ := List.getElem_of_mem hx
  exact h j _ hj (List.getElem?_eq_getElem hj)
theorem all_f {α : Type} {p : α → Bool} {l : List α} {k : Nat} {x : α} (hx : l[k]? = some x) (h : p x = false) : l.all p = false := by
  rw [List.all_eq_false]
  exact ⟨x, List.mem_of_getElem? hx, by simpa using h⟩
set_option maxRecDepth 100000 in
set_option maxHeartbeats 400000 in
theorem idxc_any (l : List Cl) (a : Option Addr) (cap : Nat) (w : World) (hl : l.length ≤ 9223372036854775807) (hI : IsCalls w a l) :
    Calls Try.prog 36 #[.slice a l.length cap, .func (.func 31) #[] #[]] w fun e w' => (∃ r : Int, e = .returned (.int .i64 r) ∧ decide (0 ≤ r) = !l.all mayC) ∧ Below w.heap.size w w' := by
  have HI := Lib.hid hI
  clear hI
  go_enter Try.func36, Try.ntmps36
  go_wp2_with fail
  go_loopw [8] (fun i wr => ∃ k : Nat, k ≤ l.length ∧ i = .int .i64 k ∧ (∀ j x, j < k → l[j]? = some x → mayC x = true) ∧ Below w.heap.size w wr) (fun i _ => l.length - (intOf i).toNat)
  case atStart => exact ⟨0, Nat.zero_le _, rfl, fun j x hj => by omega, Below.refl _ _⟩
  case round =>
    obtain ⟨k, hk, rfl, hA, hb⟩ := hrel
    have HA := Lib.hid hA
    have HB := Lib.hid hb
    clear hA hb
    by_cases hlt : k < l.length
    · obtain ⟨⟨x0, x1, x2, x3⟩, hx⟩ : ∃ x, l[k]? = some x := ⟨_, List.getElem?_eq_getElem hlt⟩
      obtain ⟨g, off, rfl, hc⟩ := (HI.out.below HB.out) (by intro e; rw [e] at hlt; simp at hlt)
      obtain ⟨d0, d1, d2, d3⟩ := hc k _ hx
      have HX := Lib.hid hx
      have i0 : (0 : Int) ≤ (k : Int) := by omega
      have i1 : (k : Int) < (l.length : Int) := by omega
      dsimp only at d0 d1 d2 d3
      clear hx hc
      go_wp2_with fail
      refine (mayf_any x0 x1 x2 x3 _).mono ?_
      rintro e w1 ⟨rfl, hb1⟩
      have HB1 := Lib.hid (on HB.out hb1)
      clear hb1 d0 d1 d2 d3
      by_cases hm : mayC (x0, x1, x2, x3) = true
      · rw [hm]
        have HM := Lib.hid hm
        clear hm
        go_wp2_with fail
        go_roundw
        case rel => exact ⟨k + 1, by omega, by go_num, fun j y hj hy => (by
          by_cases e : j = k
          · rw [e, HX.out] at hy; cases hy; exact HM.out
          · exact HA.out j y (by omega) hy), HB1.out⟩
        case measure => simp [intOf]; omega
      · have hm' : mayC (x0, x1, x2, x3) = false := by simpa using hm
        have HF := Lib.hid (all_f HX.out hm')
        rw [hm']
        clear hm hm'
        go_wp2_with fail
        go_ret
        exact ⟨⟨_, rfl, by rw [HF.out]; simp⟩, HB1.out⟩
    · obtain rfl : k = l.length := by omega
      have HT := Lib.hid (all_of_at HA.out)
      go_wp2_with fail
      go_ret
      exact ⟨⟨_, rfl, by rw [HT.out]; simp⟩, HB.out⟩
set_option maxHeartbeats 400000 in
theorem conc_any (l : List Cl) (a : Option Addr) (cap : Nat) (w : World) (hl : l.length ≤ 9223372036854775807) (hI : IsCalls w a l) :
    Calls Try.prog 30 #[.slice a l.length cap, .func (.func 31) #[] #[]] w fun e w' => e = .returned (.bool (!l.all mayC)) ∧ Below w.heap.size w w' := by
  have h := idxc_any l a cap w hl hI
  clear hI
  go_enter Try.func30, Try.ntmps30
  go_wp2_with fail
  refine h.mono ?_
  rintro e w1 ⟨⟨r, rfl, hr⟩, hb⟩
  have HR := Lib.hid hr
  clear hr h
  go_wp2_with fail
  go_ret
  exact ⟨retB HR.out, hb⟩
set_option maxRecDepth 100000 in
set_option maxHeartbeats 400000 in
theorem idxp_any (l : List Int) (a : Option Addr) (cap : Nat) (w : World) (hI : IsSl encI w a l) :
    Calls Try.prog 37 #[.slice a l.length cap, .func (.func 34) #[] #[]] w fun e w' => (∃ r : Int, e = .returned (.int .i64 r) ∧ decide (0 ≤ r) = !l.all fun n => win n 0 255) ∧ Below w.heap.size w w' := by
  have HI := Lib.hid hI
  have hl := hI.len
  clear hI
  go_enter Try.func37, Try.ntmps37
  go_wp2_with fail
  go_loopw [8] (fun i wr => ∃ k : Nat, k ≤ l.length ∧ i = .int .i64 k ∧ (∀ j x, j < k → l[j]? = some x → win x 0 255 = true) ∧ Below w.heap.size w wr) (fun i _ => l.length - (intOf i).toNat)
  case atStart => exact ⟨0, Nat.zero_le _, rfl, fun j x hj => by omega, Below.refl _ _⟩
  case round =>
    obtain ⟨k, hk, rfl, hA, hb⟩ := hrel
    have HA := Lib.hid hA
    have HB := Lib.hid hb
    clear hA hb
    by_cases hlt : k < l.length
    · obtain ⟨g, off, x, rfl, hx, d0⟩ := (HI.out.below HB.out).at hlt
      have HX := Lib.hid hx
      have i0 : (0 : Int) ≤ (k : Int) := by omega
      have i1 : (k : Int) < (l.length : Int) := by omega
      clear hx
      go_wp2_with fail
      refine (pickf_any x _).mono ?_
      rintro e w1 ⟨rfl, rfl⟩
      clear d0
      by_cases hm : win x 0 255 = true
      · rw [hm]
        have HM := Lib.hid hm
        clear hm
        go_wp2_with fail
        go_roundw
        case rel => exact ⟨k + 1, by omega, by go_num, fun j y hj hy => (by
          by_cases e : j = k
          · rw [e, HX.out] at hy; cases hy; exact HM.out
          · exact HA.out j y (by omega) hy), HB.out⟩
        case measure => simp [intOf]; omega
      · have hm' : win x 0 255 = false := by simpa using hm
        have HF := Lib.hid (all_f (p := fun n => win n 0 255) HX.out hm')
        rw [hm']
        clear hm hm'
        go_wp2_with fail
        go_ret
        exact ⟨⟨_, rfl, by rw [HF.out]; simp⟩, HB.out⟩
    · obtain rfl : k = l.length := by omega
      have HT := Lib.hid (all_of_at (p := fun n => win n 0 255) (fun j x _ => HA.out j x ‹_›))
      go_wp2_with fail
      go_ret
      exact ⟨⟨_, rfl, by rw [HT.out]; simp⟩, HB.out⟩
set_option maxHeartbeats 400000 in
theorem conp_any (l : List Int) (a : Option Addr) (cap : Nat) (w : World) (hI : IsSl encI w a l) :
    Calls Try.prog 33 #[.slice a l.length cap, .func (.func 34) #[] #[]] w fun e w' => e = .returned (.bool (!l.all fun n => win n 0 255)) ∧ Below w.heap.size w w' := by
  have h := idxp_any l a cap w hI
  clear hI
  go_enter Try.func33, Try.ntmps33
  go_wp2_with fail
  refine h.mono ?_
  rintro e w1 ⟨⟨r, rfl, hr⟩, hb⟩
  have HR := Lib.hid hr
  clear hr h
  go_wp2_with fail
  go_ret
  exact ⟨retB HR.out, hb⟩
end Go.Proofs.Ytdjhkiahpidldaa
