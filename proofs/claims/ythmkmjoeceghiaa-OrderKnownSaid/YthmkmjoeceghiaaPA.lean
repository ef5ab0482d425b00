/- Histories in memory; which calls may be. -/
import Derived.Test.YthmkmjoeceghiaaPZ
import Derived.Test.YthmkmjoeceghiaaOA
namespace Go.Proofs.Ythmkmjoeceghiaa
open Go.RowKit

attribute [local go_sem ↓] Go.wp_at_zero Go.wp_at_succ
abbrev spV (x : Sp) : Value := .agg #[.int .i64 x.1.1, .int .i64 x.1.2.1, .int .i64 x.1.2.2.1, .int .i64 x.1.2.2.2, .int .i64 x.2.1, .int .i64 x.2.2]
def spCells (x : Sp) : List Value := [.int .i64 x.1.1, .int .i64 x.1.2.1, .int .i64 x.1.2.2.1, .int .i64 x.1.2.2.2, .int .i64 x.2.1, .int .i64 x.2.2]
/-- the calls l lie at a -/
def IsSpans (w : World) (a : Option Addr) (l : List Sp) : Prop :=
  l ≠ [] → ∃ g off, a = some ⟨g, off, none⟩ ∧ ∀ (k : Nat) (c : Sp), l[k]? = some c → w.cell? ⟨g, off + k * 6, none⟩ = some (.int .i64 c.1.1) ∧ w.cell? ⟨g, off + k * 6 + 1, none⟩ = some (.int .i64 c.1.2.1) ∧ w.cell? ⟨g, off + k * 6 + 2, none⟩ = some (.int .i64 c.1.2.2.1) ∧
    w.cell? ⟨g, off + k * 6 + 3, none⟩ = some (.int .i64 c.1.2.2.2) ∧ w.cell? ⟨g, off + k * 6 + 4, none⟩ = some (.int .i64 c.2.1) ∧ w.cell? ⟨g, off + k * 6 + 5, none⟩ = some (.int .i64 c.2.2)
theorem IsSpans.below {w w' : World} {a : Option Addr} {l : List Sp} (h : IsSpans w a l) (hb : Below w.heap.size w w') : IsSpans w' a l := fun hne => by
  obtain ⟨g, off, rfl, hc⟩ := h hne
  exact ⟨g, off, rfl, fun k c hx => ⟨below_cell hb (Nat.le_refl _) (hc k c hx).1, below_cell hb (Nat.le_refl _) (hc k c hx).2.1, below_cell hb (Nat.le_refl _) (hc k c hx).2.2.1, below_cell hb (Nat.le_refl _) (hc k c hx).2.2.2.1, below_cell hb (Nat.le_refl _) (hc k c hx).2.2.2.2.1, below_cell hb (Nat.le_refl _) (hc k c hx).2.2.2.2.2⟩⟩
theorem IsSpans.take {w : World} {a : Option Addr} {l : List Sp} (h : IsSpans w a l) (n : Nat) : IsSpans w a (l.take n) := fun hne => by
  obtain ⟨g, off, rfl, hc⟩ := h (by intro e; rw [e] at hne; simp at hne)
  exact ⟨g, off, rfl, fun k c hx => hc k c (by rw [List.getElem?_take] at hx; split at hx <;> simp_all)⟩
def WfS (l : List Sp) : Prop := ∀ x ∈ l, WfO x.1.2
def kindB (x : Sp) : Bool := decide (1 ≤ x.1.1) && decide (x.1.1 ≤ 4) && (decide (x.1.1 ≠ 2) || decide (x.1.2 = (0, 0, 0)))
def timesB (x : Sp) : Bool := decide (0 ≤ x.2.1) && decide (max x.2.1 x.2.2 ≤ 9007199254740991) && (decide (x.2.2 = -1) || decide (x.2.1 ≤ x.2.2))
def mayB (x : Sp) : Bool := kindB x && timesB x
theorem mayB_iff (x : Sp) : mayB x = true ↔ May x := by
  unfold mayB kindB timesB May
  simp only [Bool.and_eq_true, Bool.or_eq_true, decide_eq_true_eq, ne_eq]
  constructor
  · rintro ⟨⟨⟨h1, h2⟩, h3⟩, ⟨⟨h4, h5⟩, h6⟩⟩
    exact ⟨h1, h2, fun e => h3.resolve_left (fun h => h e), h4, by omega, by omega, h6⟩
  · rintro ⟨h1, h2, h3, h4, h5, h6, h7⟩
    refine ⟨⟨⟨h1, h2⟩, ?_⟩, ⟨⟨h4, by omega⟩, h7⟩⟩
    by_cases e : x.1.1 = 2
    · exact .inr (h3 e)
    · exact .inl e
def chk (l : List Sp) : Int := if 256 < l.length then 5 else if l.all mayB = true then 0 else 2
theorem chk_zero {l : List Sp} (h : chk l = 0) : l.length ≤ 256 ∧ AllMay l := by
  unfold chk at h
  by_cases h1 : 256 < l.length
  · rw [if_pos h1] at h; cases h
  · rw [if_neg h1] at h
    by_cases h2 : l.all mayB = true
    · refine ⟨by omega, fun i hi => ?_⟩
      have := List.all_eq_true.1 h2 l[i] (List.getElem_mem hi)
      rw [mayB_iff] at this
      rw [sp_at (List.getElem?_eq_getElem hi)]; exact this
    · rw [if_neg h2] at h; cases h
set_option maxRecDepth 100000 in
set_option maxHeartbeats 1000000 in
theorem may_any (x : Sp) (w : World) : Calls Try.prog 64 #[spV x] w fun e w' => e = .returned (.bool (mayB x)) ∧ Below w.heap.size w w' := by
  have hal : Below w.heap.size w (w.alloc (.cells #[.int .i64 x.1.1, .int .i64 x.1.2.1, .int .i64 x.1.2.2.1, .int .i64 x.1.2.2.2, .int .i64 x.2.1, .int .i64 x.2.2] 50)) := (by repeat (first | exact Below.refl _ _ | assumption | refine Below.setCell ?_ (by first | omega | (simp; done) | (simp; omega)) _ | refine Below.drew ?_ | refine Below.alloc ?_ (by first | omega | (simp; done) | (simp; omega)) _ | refine Below.trans ?_ (Below.mono (by assumption) (by first | omega | (simp; done) | (simp; omega)))))
  have HB := Lib.hid hal
  clear hal
  obtain ⟨⟨k, o0, o1, o2⟩, f, t⟩ := x
  dsimp only at HB ⊢
  by_cases h1 : 1 ≤ k
  · by_cases h4 : k ≤ 4
    · by_cases h2 : k = 2
      · by_cases ho : (o0, o1, o2) = ((0, 0, 0) : Ob)
        · have HK := Lib.hid (show kindB ((k, o0, o1, o2), f, t) = true by simp [kindB, h1, h4, h2, ho])
          have hq := eql30 (x := (o0, o1, o2)) (y := (0, 0, 0)) true (by simpa using ho)
          have hk2 : (k != 2) = false := by simpa using h2
          clear h2 ho
          obtain ⟨mx, hmx⟩ : ∃ mx, mx = max f t := ⟨_, rfl⟩
          have hmx' : max f t = mx := hmx.symm
          by_cases hf : 0 ≤ f
          · by_cases hm : mx ≤ 9007199254740991
            · by_cases ht : t = -1
              · have HE := Lib.hid (show mayB ((k, o0, o1, o2), f, t) = true by unfold mayB; rw [HK.out]; unfold timesB; dsimp only; rw [hmx', decide_eq_true hf, decide_eq_true hm, decide_eq_true ht]; rfl)
                have ht' : (t == -1) = true := by simpa using ht
                clear ht hmx
                go_enter Try.func64, Try.ntmps64
                go_wp2_with fail
                go_ret
                exact ⟨retB HE.out.symm, HB.out⟩
              · have ht' : (t == -1) = false := by simpa using ht
                by_cases hft : f ≤ t
                · have HE := Lib.hid (show mayB ((k, o0, o1, o2), f, t) = true by unfold mayB; rw [HK.out]; simp only [timesB, hf, hmx', hm, ht, hft]; rfl)
                  clear ht hmx
                  go_enter Try.func64, Try.ntmps64
                  go_wp2_with fail
                  go_ret
                  exact ⟨retB HE.out.symm, HB.out⟩
                · have HE := Lib.hid (show mayB ((k, o0, o1, o2), f, t) = false by unfold mayB; rw [HK.out]; simp only [timesB, hf, hmx', hm, ht, hft]; rfl)
                  have hft' : decide (f ≤ t) = false := by simpa using hft
                  clear ht hmx hft
                  go_enter Try.func64, Try.ntmps64
                  go_wp2_with fail
                  go_ret
                  exact ⟨retB HE.out.symm, HB.out⟩
            · have HE := Lib.hid (show mayB ((k, o0, o1, o2), f, t) = false by unfold mayB; rw [HK.out]; simp only [timesB, hf, hmx', hm]; rfl)
              have hm' : decide (mx ≤ 9007199254740991) = false := by simpa using hm
              clear hmx hm
              go_enter Try.func64, Try.ntmps64
              go_wp2_with fail
              go_ret
              exact ⟨retB HE.out.symm, HB.out⟩
          · have HE := Lib.hid (show mayB ((k, o0, o1, o2), f, t) = false by unfold mayB; rw [HK.out]; simp only [timesB, hf]; rfl)
            have hf' : decide (0 ≤ f) = false := by simpa using hf
            clear hf hmx hmx'
            go_enter Try.func64, Try.ntmps64
            go_wp2_with fail
            go_ret
            exact ⟨retB HE.out.symm, HB.out⟩
        · have HE := Lib.hid (show mayB ((k, o0, o1, o2), f, t) = false by simp only [mayB, kindB, h1, h4, h2, ho]; rfl)
          have hq := eql30 (x := (o0, o1, o2)) (y := (0, 0, 0)) false (by simpa using ho)
          have hk2 : (k != 2) = false := by simpa using h2
          clear h2 ho
          go_enter Try.func64, Try.ntmps64
          go_wp2_with fail
          go_ret
          exact ⟨retB HE.out.symm, HB.out⟩
      · have HK := Lib.hid (show kindB ((k, o0, o1, o2), f, t) = true by simp [kindB, h1, h4, h2])
        have hk2 : (k != 2) = true := by simpa using h2
        clear h2
        obtain ⟨mx, hmx⟩ : ∃ mx, mx = max f t := ⟨_, rfl⟩
        have hmx' : max f t = mx := hmx.symm
        by_cases hf : 0 ≤ f
        · by_cases hm : mx ≤ 9007199254740991
          · by_cases ht : t = -1
            · have HE := Lib.hid (show mayB ((k, o0, o1, o2), f, t) = true by unfold mayB; rw [HK.out]; unfold timesB; dsimp only; rw [hmx', decide_eq_true hf, decide_eq_true hm, decide_eq_true ht]; rfl)
              have ht' : (t == -1) = true := by simpa using ht
              clear ht hmx
              go_enter Try.func64, Try.ntmps64
              go_wp2_with fail
              go_ret
              exact ⟨retB HE.out.symm, HB.out⟩
            · have ht' : (t == -1) = false := by simpa using ht
              by_cases hft : f ≤ t
              · have HE := Lib.hid (show mayB ((k, o0, o1, o2), f, t) = true by unfold mayB; rw [HK.out]; simp only [timesB, hf, hmx', hm, ht, hft]; rfl)
                clear ht hmx
                go_enter Try.func64, Try.ntmps64
                go_wp2_with fail
                go_ret
                exact ⟨retB HE.out.symm, HB.out⟩
              · have HE := Lib.hid (show mayB ((k, o0, o1, o2), f, t) = false by unfold mayB; rw [HK.out]; simp only [timesB, hf, hmx', hm, ht, hft]; rfl)
                have hft' : decide (f ≤ t) = false := by simpa using hft
                clear ht hmx hft
                go_enter Try.func64, Try.ntmps64
                go_wp2_with fail
                go_ret
                exact ⟨retB HE.out.symm, HB.out⟩
          · have HE := Lib.hid (show mayB ((k, o0, o1, o2), f, t) = false by unfold mayB; rw [HK.out]; simp only [timesB, hf, hmx', hm]; rfl)
            have hm' : decide (mx ≤ 9007199254740991) = false := by simpa using hm
            clear hmx hm
            go_enter Try.func64, Try.ntmps64
            go_wp2_with fail
            go_ret
            exact ⟨retB HE.out.symm, HB.out⟩
        · have HE := Lib.hid (show mayB ((k, o0, o1, o2), f, t) = false by unfold mayB; rw [HK.out]; simp only [timesB, hf]; rfl)
          have hf' : decide (0 ≤ f) = false := by simpa using hf
          clear hf hmx hmx'
          go_enter Try.func64, Try.ntmps64
          go_wp2_with fail
          go_ret
          exact ⟨retB HE.out.symm, HB.out⟩
    · have HE := Lib.hid (show mayB ((k, o0, o1, o2), f, t) = false by simp [mayB, kindB, h4])
      have h4' : decide (k ≤ 4) = false := by simpa using h4
      clear h4
      go_enter Try.func64, Try.ntmps64
      go_wp2_with fail
      go_ret
      exact ⟨retB HE.out.symm, HB.out⟩
  · have HE := Lib.hid (show mayB ((k, o0, o1, o2), f, t) = false by simp [mayB, kindB, h1])
    have h1' : decide (1 ≤ k) = false := by simpa using h1
    clear h1
    go_enter Try.func64, Try.ntmps64
    go_wp2_with fail
    go_ret
    exact ⟨retB HE.out.symm, HB.out⟩
end Go.Proofs.Ythmkmjoeceghiaa
