/- Check of a history, the program's and the reference's. -/
import Derived.Test.YthmkmjoeceghiaaPA
namespace Go.Proofs.Ythmkmjoeceghiaa
open Go.RowKit

attribute [local go_sem ↓] Go.wp_at_zero Go.wp_at_succ
theorem all_take {l : List Sp} {k : Nat} {x : Sp} (h : l[k]? = some x) : (l.take (k + 1)).all mayB = ((l.take k).all mayB && mayB x) := by rw [take_succ h]; simp
theorem all_no {l : List Sp} {k : Nat} {x : Sp} (h : l[k]? = some x) (hm : mayB x = false) : l.all mayB = false := by
  rw [Bool.eq_false_iff]
  intro ha
  rw [List.all_eq_true.1 ha x (List.mem_of_getElem? h)] at hm
  cases hm
set_option maxHeartbeats 400000 in
theorem not_may (x : Sp) (w : World) : Calls Try.prog 63 #[spV x] w fun e w' => e = .returned (.bool (!mayB x)) ∧ Below w.heap.size w w' := by
  have hal : Below w.heap.size w (w.alloc (.cells #[.int .i64 x.1.1, .int .i64 x.1.2.1, .int .i64 x.1.2.2.1, .int .i64 x.1.2.2.2, .int .i64 x.2.1, .int .i64 x.2.2] 50)) := (by repeat (first | exact Below.refl _ _ | assumption | refine Below.setCell ?_ (by first | omega | (simp; done) | (simp; omega)) _ | refine Below.drew ?_ | refine Below.alloc ?_ (by first | omega | (simp; done) | (simp; omega)) _ | refine Below.trans ?_ (Below.mono (by assumption) (by first | omega | (simp; done) | (simp; omega)))))
  have hm := fun W => may_any x W
  obtain ⟨b, hb0⟩ : ∃ b, b = mayB x := ⟨_, rfl⟩
  rw [← hb0] at hm
  have HX := Lib.hid hb0
  clear hb0
  go_enter Try.func63, Try.ntmps63
  go_wp2_with fail
  refine (hm _).mono ?_
  rintro e w1 ⟨rfl, hb⟩
  have HB := Lib.hid (on2 hal hb)
  clear hm hal hb
  go_wp2_with fail
  go_ret
  exact ⟨retB (by rw [HX.out]), HB.out⟩
/-- is there one that may not be? -/
def IdxIs (l : List Sp) (w : World) (e : Ending) (w' : World) : Prop := (∃ r : Int, e = .returned (.int .i64 r) ∧ decide (0 ≤ r) = !(l.all mayB)) ∧ Below w.heap.size w w'
set_option maxRecDepth 100000 in
set_option maxHeartbeats 1000000 in
theorem index_any (l : List Sp) (a : Option Addr) (cap : Nat) (w : World) (hl : l.length ≤ 9223372036854775807) (hI : IsSpans w a l) :
    Calls Try.prog 74 #[.slice a l.length cap, .func (.func 63) #[] #[]] w (IdxIs l w) := by
  have HI := Lib.hid hI
  clear hI
  go_enter Try.func74, Try.ntmps74
  go_wp2_with fail
  go_loopw [8] (fun iv wr => ∃ k : Nat, k ≤ l.length ∧ iv = .int .i64 k ∧ (l.take k).all mayB = true ∧ Below w.heap.size w wr) (fun iv _ => l.length - (intOf iv).toNat)
  case atStart => exact ⟨0, Nat.zero_le _, rfl, rfl, Below.refl _ _⟩
  case round =>
    obtain ⟨k, hk, rfl, ha, hB⟩ := hrel
    have HA := Lib.hid ha
    have BB := Lib.hid hB
    clear ha hB
    by_cases hlt : k < l.length
    · obtain ⟨x, hx⟩ : ∃ x, l[k]? = some x := ⟨_, List.getElem?_eq_getElem hlt⟩
      obtain ⟨g, off, rfl, hc⟩ := (HI.out.below BB.out) (by intro e; rw [e] at hx; simp at hx)
      obtain ⟨d0, d1, d2, d3, d4, d5⟩ := hc k _ hx
      have HX := Lib.hid hx
      have hm := fun W => not_may x W
      have i0 : (0 : Int) ≤ (k : Int) := by omega
      have i1 : (k : Int) < (l.length : Int) := by omega
      clear hx hc
      cases hmx : mayB x with
      | true =>
        rw [hmx] at hm
        have HT := Lib.hid (show (l.take (k + 1)).all mayB = true by rw [all_take HX.out, HA.out, hmx]; rfl)
        clear hmx
        go_wp2_with fail
        refine (hm _).mono ?_
        rintro e w1 ⟨rfl, hb⟩
        have B2 := Lib.hid (on2 BB.out hb)
        clear hm hb d0 d1 d2 d3 d4 d5
        go_wp2_with fail
        go_roundw
        case rel => exact ⟨k + 1, by omega, by go_num, HT.out, B2.out⟩
        case measure => simp [intOf]; omega
      | false =>
        rw [hmx] at hm
        have HT := Lib.hid (show (decide ((0 : Int) ≤ (k : Int))) = !(l.all mayB) by rw [all_no HX.out hmx]; simp)
        clear hmx
        go_wp2_with fail
        refine (hm _).mono ?_
        rintro e w1 ⟨rfl, hb⟩
        have B2 := Lib.hid (on2 BB.out hb)
        clear hm hb d0 d1 d2 d3 d4 d5
        go_wp2_with fail
        go_ret
        exact ⟨⟨_, rfl, HT.out⟩, B2.out⟩
    · obtain rfl : k = l.length := by omega
      have HT := Lib.hid (show (decide ((0 : Int) ≤ -1)) = !(l.all mayB) by
        have := HA.out
        rw [List.take_length] at this
        rw [this]; rfl)
      go_wp2_with fail
      go_ret
      exact ⟨⟨_, rfl, HT.out⟩, BB.out⟩
set_option maxHeartbeats 400000 in
theorem contains_any (l : List Sp) (a : Option Addr) (cap : Nat) (w : World) (hl : l.length ≤ 9223372036854775807) (hI : IsSpans w a l) :
    Calls Try.prog 62 #[.slice a l.length cap, .func (.func 63) #[] #[]] w fun e w' => e = .returned (.bool (!(l.all mayB))) ∧ Below w.heap.size w w' := by
  have hi := index_any l a cap w hl hI
  clear hI
  go_enter Try.func62, Try.ntmps62
  go_wp2_with fail
  refine hi.mono ?_
  rintro e w1 ⟨⟨r, rfl, hr⟩, hb⟩
  have HR := Lib.hid hr
  clear hi hr
  go_wp2_with fail
  go_ret
  exact ⟨retB HR.out, hb⟩
set_option maxHeartbeats 400000 in
theorem check_any (l : List Sp) (a : Option Addr) (cap : Nat) (w : World) (hl : l.length ≤ 9223372036854775807) (hI : IsSpans w a l) :
    Calls Try.prog 28 #[.slice a l.length cap] w fun e w' => e = .returned (.int .i64 (chk l)) ∧ Below w.heap.size w w' := by
  have hc := contains_any l a cap w hl hI
  clear hI
  by_cases h1 : 256 < l.length
  · have HC := Lib.hid (show chk l = 5 by simp [chk, h1])
    have i1 : (256 : Int) < l.length := by omega
    clear hc
    go_enter Try.func28, Try.ntmps28
    go_wp2_with fail
    go_ret
    exact ⟨ret1 HC.out.symm, Below.refl _ _⟩
  · have i1 : ¬ (256 : Int) < l.length := by omega
    cases h2 : l.all mayB with
    | true =>
      have HC := Lib.hid (show chk l = 0 by simp only [chk, if_neg h1, h2, if_true])
      rw [h2] at hc
      clear h2
      go_enter Try.func28, Try.ntmps28
      go_wp2_with fail
      refine hc.mono ?_
      rintro e w1 ⟨rfl, hb⟩
      clear hc
      go_wp2_with fail
      go_ret
      exact ⟨ret1 HC.out.symm, hb⟩
    | false =>
      have HC := Lib.hid (show chk l = 2 by simp only [chk, if_neg h1, h2]; rfl)
      rw [h2] at hc
      clear h2
      go_enter Try.func28, Try.ntmps28
      go_wp2_with fail
      refine hc.mono ?_
      rintro e w1 ⟨rfl, hb⟩
      clear hc
      go_wp2_with fail
      go_ret
      exact ⟨ret1 HC.out.symm, hb⟩
set_option maxRecDepth 100000 in
set_option maxHeartbeats 4000000 in
theorem rcheck_any (l : List Sp) (a : Option Addr) (cap : Nat) (w : World) (hl : l.length ≤ 9223372036854775807) (hI : IsSpans w a l) :
    Calls Try.prog 29 #[.slice a l.length cap] w fun e w' => e = .returned (.int .i64 (chk l)) ∧ Below w.heap.size w w' := by
  have HI := Lib.hid hI
  clear hI
  by_cases h1 : 256 < l.length
  · have HC := Lib.hid (show chk l = 5 by simp [chk, h1])
    have i1 : (256 : Int) < l.length := by omega
    go_enter Try.func29, Try.ntmps29
    go_wp2_with fail
    go_ret
    exact ⟨ret1 HC.out.symm, Below.refl _ _⟩
  · have i1 : ¬ (256 : Int) < l.length := by omega
    have H1 := Lib.hid h1
    have BN := Lib.hid (Blk.new w #[.int .i64 0, .int .i64 0, .int .i64 0] 30)
    have B0 := Lib.hid ((Below.refl w.heap.size w).alloc (Nat.le_refl _) (.cells #[.int .i64 0, .int .i64 0, .int .i64 0] 30))
    clear h1
    go_enter Try.func29, Try.ntmps29
    go_wp2_with fail
    clear i1
    generalize w.alloc (.cells #[.int .i64 0, .int .i64 0, .int .i64 0] 30) = W at *
    go_loopw [4] (fun iv wr => ∃ k : Nat, k ≤ l.length ∧ iv = .int .i64 k ∧ (l.take k).all mayB = true ∧ Below W.heap.size W wr) (fun iv _ => l.length - (intOf iv).toNat)
    case atStart => exact ⟨0, Nat.zero_le _, rfl, rfl, Below.refl _ _⟩
    case round =>
      obtain ⟨q, hk, rfl, ha, hB⟩ := hrel
      have HA := Lib.hid ha
      have BB := Lib.hid hB
      clear ha hB
      by_cases hlt : q < l.length
      · obtain ⟨⟨⟨k, o0, o1, o2⟩, f, t⟩, hx⟩ : ∃ x, l[q]? = some x := ⟨_, List.getElem?_eq_getElem hlt⟩
        obtain ⟨g, off, rfl, hc⟩ := (HI.out.below (on2 B0.out BB.out)) (by intro e; rw [e] at hx; simp at hx)
        obtain ⟨d0, d1, d2, d3, d4, d5⟩ := hc q _ hx
        have HX := Lib.hid hx
        have n0 := below_cell BB.out (Nat.le_refl _) (BN.out.cell (i := 0) rfl)
        have n1 := below_cell BB.out (Nat.le_refl _) (BN.out.cell (i := 1) rfl)
        have n2 := below_cell BB.out (Nat.le_refl _) (BN.out.cell (i := 2) rfl)
        have i0 : (0 : Int) ≤ (q : Int) := by omega
        have i2 : (q : Int) < (l.length : Int) := by omega
        dsimp only at d0 d1 d2 d3 d4 d5
        simp at n0 n1 n2
        have lz : w.heap.size < wr.heap.size := by have := BN.out.lt; have := BB.out.size; omega
        have B2 := Lib.hid (show Below W.heap.size W (wr.alloc (.cells #[.int .i64 k, .int .i64 o0, .int .i64 o1, .int .i64 o2, .int .i64 f, .int .i64 t] 50)) from BB.out.alloc BB.out.size _)
        clear hx hc
        by_cases h1 : 1 ≤ k
        · by_cases h4 : k ≤ 4
          · by_cases h2 : k = 2
            · by_cases ho : (o0, o1, o2) = ((0, 0, 0) : Ob)
              · have HK := Lib.hid (show kindB ((k, o0, o1, o2), f, t) = true by simp [kindB, h1, h4, h2, ho])
                have hq := eql30 (x := (o0, o1, o2)) (y := (0, 0, 0)) true (by simpa using ho)
                have hk2 : (k != 2) = false := by simpa using h2
                clear h2 ho
                by_cases hf : 0 ≤ f
                · by_cases hm : f ≤ 9007199254740991
                  · by_cases ht : t = -1
                    · have hmm : max f t ≤ 9007199254740991 := by omega
                      have HE := Lib.hid (show mayB ((k, o0, o1, o2), f, t) = true by unfold mayB; rw [HK.out]; unfold timesB; dsimp only; rw [decide_eq_true hf, decide_eq_true hmm, decide_eq_true ht]; rfl)
                      have ht' : (t == -1) = true := by simpa using ht
                      clear ht hmm
                      have HT := Lib.hid (show (l.take (q + 1)).all mayB = true by rw [all_take HX.out, HA.out, HE.out]; rfl)
                      go_wp2_with fail
                      go_roundw
                      case rel => exact ⟨q + 1, by omega, by go_num, HT.out, B2.out⟩
                      case measure => simp [intOf]; omega
                    · have ht' : (t == -1) = false := by simpa using ht
                      by_cases hft : f ≤ t
                      · by_cases htm : t ≤ 9007199254740991
                        · have hmm : max f t ≤ 9007199254740991 := by omega
                          have HE := Lib.hid (show mayB ((k, o0, o1, o2), f, t) = true by unfold mayB; rw [HK.out]; unfold timesB; dsimp only; rw [decide_eq_true hf, decide_eq_true hmm, decide_eq_true hft, Bool.or_true]; rfl)
                          clear ht hmm
                          have HT := Lib.hid (show (l.take (q + 1)).all mayB = true by rw [all_take HX.out, HA.out, HE.out]; rfl)
                          go_wp2_with fail
                          go_roundw
                          case rel => exact ⟨q + 1, by omega, by go_num, HT.out, B2.out⟩
                          case measure => simp [intOf]; omega
                        · have hmm : ¬ max f t ≤ 9007199254740991 := by omega
                          have HE := Lib.hid (show mayB ((k, o0, o1, o2), f, t) = false by unfold mayB; rw [HK.out]; unfold timesB; dsimp only; rw [decide_eq_true hf, decide_eq_false hmm]; rfl)
                          have htm' : decide (t ≤ 9007199254740991) = false := by simpa using htm
                          clear ht htm hmm
                          go_wp2_with fail
                          go_ret
                          exact ⟨ret1 (show 2 = chk l by simp only [chk, if_neg H1.out, all_no HX.out HE.out]; rfl), on2 B0.out B2.out⟩
                      · have HE := Lib.hid (show mayB ((k, o0, o1, o2), f, t) = false by unfold mayB; rw [HK.out]; unfold timesB; dsimp only; rw [decide_eq_false hft, decide_eq_false ht]; simp)
                        have hft' : decide (f ≤ t) = false := by simpa using hft
                        clear ht hft
                        go_wp2_with fail
                        go_ret
                        exact ⟨ret1 (show 2 = chk l by simp only [chk, if_neg H1.out, all_no HX.out HE.out]; rfl), on2 B0.out B2.out⟩
                  · have hmm : ¬ max f t ≤ 9007199254740991 := by omega
                    have HE := Lib.hid (show mayB ((k, o0, o1, o2), f, t) = false by unfold mayB; rw [HK.out]; unfold timesB; dsimp only; rw [decide_eq_true hf, decide_eq_false hmm]; rfl)
                    have hm' : decide (f ≤ 9007199254740991) = false := by simpa using hm
                    clear hm hmm
                    go_wp2_with fail
                    go_ret
                    exact ⟨ret1 (show 2 = chk l by simp only [chk, if_neg H1.out, all_no HX.out HE.out]; rfl), on2 B0.out B2.out⟩
                · have HE := Lib.hid (show mayB ((k, o0, o1, o2), f, t) = false by unfold mayB; rw [HK.out]; unfold timesB; dsimp only; rw [decide_eq_false hf]; rfl)
                  have hf' : decide (0 ≤ f) = false := by simpa using hf
                  clear hf
                  go_wp2_with fail
                  go_ret
                  exact ⟨ret1 (show 2 = chk l by simp only [chk, if_neg H1.out, all_no HX.out HE.out]; rfl), on2 B0.out B2.out⟩
              · have HE := Lib.hid (show mayB ((k, o0, o1, o2), f, t) = false by simp only [mayB, kindB, h1, h4, h2, ho]; rfl)
                have hq := eql30 (x := (o0, o1, o2)) (y := (0, 0, 0)) false (by simpa using ho)
                have hk2 : (k != 2) = false := by simpa using h2
                clear h2 ho
                by_cases hf : 0 ≤ f
                · by_cases hm : f ≤ 9007199254740991
                  · by_cases ht : t = -1
                    · have ht' : (t == -1) = true := by simpa using ht
                      clear ht
                      go_wp2_with fail
                      go_ret
                      exact ⟨ret1 (show 2 = chk l by simp only [chk, if_neg H1.out, all_no HX.out HE.out]; rfl), on2 B0.out B2.out⟩
                    · have ht' : (t == -1) = false := by simpa using ht
                      by_cases hft : f ≤ t
                      · by_cases htm : t ≤ 9007199254740991
                        ·
                          go_wp2_with fail
                          go_ret
                          exact ⟨ret1 (show 2 = chk l by simp only [chk, if_neg H1.out, all_no HX.out HE.out]; rfl), on2 B0.out B2.out⟩
                        · have htm' : decide (t ≤ 9007199254740991) = false := by simpa using htm
                          clear htm
                          go_wp2_with fail
                          go_ret
                          exact ⟨ret1 (show 2 = chk l by simp only [chk, if_neg H1.out, all_no HX.out HE.out]; rfl), on2 B0.out B2.out⟩
                      · have hft' : decide (f ≤ t) = false := by simpa using hft
                        clear hft
                        go_wp2_with fail
                        go_ret
                        exact ⟨ret1 (show 2 = chk l by simp only [chk, if_neg H1.out, all_no HX.out HE.out]; rfl), on2 B0.out B2.out⟩
                  · have hm' : decide (f ≤ 9007199254740991) = false := by simpa using hm
                    clear hm
                    go_wp2_with fail
                    go_ret
                    exact ⟨ret1 (show 2 = chk l by simp only [chk, if_neg H1.out, all_no HX.out HE.out]; rfl), on2 B0.out B2.out⟩
                · have hf' : decide (0 ≤ f) = false := by simpa using hf
                  clear hf
                  go_wp2_with fail
                  go_ret
                  exact ⟨ret1 (show 2 = chk l by simp only [chk, if_neg H1.out, all_no HX.out HE.out]; rfl), on2 B0.out B2.out⟩
            · have HK := Lib.hid (show kindB ((k, o0, o1, o2), f, t) = true by simp [kindB, h1, h4, h2])
              have hk2 : (k != 2) = true := by simpa using h2
              clear h2
              by_cases hf : 0 ≤ f
              · by_cases hm : f ≤ 9007199254740991
                · by_cases ht : t = -1
                  · have hmm : max f t ≤ 9007199254740991 := by omega
                    have HE := Lib.hid (show mayB ((k, o0, o1, o2), f, t) = true by unfold mayB; rw [HK.out]; unfold timesB; dsimp only; rw [decide_eq_true hf, decide_eq_true hmm, decide_eq_true ht]; rfl)
                    have ht' : (t == -1) = true := by simpa using ht
                    clear ht hmm
                    have HT := Lib.hid (show (l.take (q + 1)).all mayB = true by rw [all_take HX.out, HA.out, HE.out]; rfl)
                    go_wp2_with fail
                    go_roundw
                    case rel => exact ⟨q + 1, by omega, by go_num, HT.out, B2.out⟩
                    case measure => simp [intOf]; omega
                  · have ht' : (t == -1) = false := by simpa using ht
                    by_cases hft : f ≤ t
                    · by_cases htm : t ≤ 9007199254740991
                      · have hmm : max f t ≤ 9007199254740991 := by omega
                        have HE := Lib.hid (show mayB ((k, o0, o1, o2), f, t) = true by unfold mayB; rw [HK.out]; unfold timesB; dsimp only; rw [decide_eq_true hf, decide_eq_true hmm, decide_eq_true hft, Bool.or_true]; rfl)
                        clear ht hmm
                        have HT := Lib.hid (show (l.take (q + 1)).all mayB = true by rw [all_take HX.out, HA.out, HE.out]; rfl)
                        go_wp2_with fail
                        go_roundw
                        case rel => exact ⟨q + 1, by omega, by go_num, HT.out, B2.out⟩
                        case measure => simp [intOf]; omega
                      · have hmm : ¬ max f t ≤ 9007199254740991 := by omega
                        have HE := Lib.hid (show mayB ((k, o0, o1, o2), f, t) = false by unfold mayB; rw [HK.out]; unfold timesB; dsimp only; rw [decide_eq_true hf, decide_eq_false hmm]; rfl)
                        have htm' : decide (t ≤ 9007199254740991) = false := by simpa using htm
                        clear ht htm hmm
                        go_wp2_with fail
                        go_ret
                        exact ⟨ret1 (show 2 = chk l by simp only [chk, if_neg H1.out, all_no HX.out HE.out]; rfl), on2 B0.out B2.out⟩
                    · have HE := Lib.hid (show mayB ((k, o0, o1, o2), f, t) = false by unfold mayB; rw [HK.out]; unfold timesB; dsimp only; rw [decide_eq_false hft, decide_eq_false ht]; simp)
                      have hft' : decide (f ≤ t) = false := by simpa using hft
                      clear ht hft
                      go_wp2_with fail
                      go_ret
                      exact ⟨ret1 (show 2 = chk l by simp only [chk, if_neg H1.out, all_no HX.out HE.out]; rfl), on2 B0.out B2.out⟩
                · have hmm : ¬ max f t ≤ 9007199254740991 := by omega
                  have HE := Lib.hid (show mayB ((k, o0, o1, o2), f, t) = false by unfold mayB; rw [HK.out]; unfold timesB; dsimp only; rw [decide_eq_true hf, decide_eq_false hmm]; rfl)
                  have hm' : decide (f ≤ 9007199254740991) = false := by simpa using hm
                  clear hm hmm
                  go_wp2_with fail
                  go_ret
                  exact ⟨ret1 (show 2 = chk l by simp only [chk, if_neg H1.out, all_no HX.out HE.out]; rfl), on2 B0.out B2.out⟩
              · have HE := Lib.hid (show mayB ((k, o0, o1, o2), f, t) = false by unfold mayB; rw [HK.out]; unfold timesB; dsimp only; rw [decide_eq_false hf]; rfl)
                have hf' : decide (0 ≤ f) = false := by simpa using hf
                clear hf
                go_wp2_with fail
                go_ret
                exact ⟨ret1 (show 2 = chk l by simp only [chk, if_neg H1.out, all_no HX.out HE.out]; rfl), on2 B0.out B2.out⟩
          · have HE := Lib.hid (show mayB ((k, o0, o1, o2), f, t) = false by simp [mayB, kindB, h4])
            have h4' : decide (k ≤ 4) = false := by simpa using h4
            clear h4
            by_cases hf : 0 ≤ f
            · by_cases hm : f ≤ 9007199254740991
              · by_cases ht : t = -1
                · have ht' : (t == -1) = true := by simpa using ht
                  clear ht
                  go_wp2_with fail
                  go_ret
                  exact ⟨ret1 (show 2 = chk l by simp only [chk, if_neg H1.out, all_no HX.out HE.out]; rfl), on2 B0.out B2.out⟩
                · have ht' : (t == -1) = false := by simpa using ht
                  by_cases hft : f ≤ t
                  · by_cases htm : t ≤ 9007199254740991
                    ·
                      go_wp2_with fail
                      go_ret
                      exact ⟨ret1 (show 2 = chk l by simp only [chk, if_neg H1.out, all_no HX.out HE.out]; rfl), on2 B0.out B2.out⟩
                    · have htm' : decide (t ≤ 9007199254740991) = false := by simpa using htm
                      clear htm
                      go_wp2_with fail
                      go_ret
                      exact ⟨ret1 (show 2 = chk l by simp only [chk, if_neg H1.out, all_no HX.out HE.out]; rfl), on2 B0.out B2.out⟩
                  · have hft' : decide (f ≤ t) = false := by simpa using hft
                    clear hft
                    go_wp2_with fail
                    go_ret
                    exact ⟨ret1 (show 2 = chk l by simp only [chk, if_neg H1.out, all_no HX.out HE.out]; rfl), on2 B0.out B2.out⟩
              · have hm' : decide (f ≤ 9007199254740991) = false := by simpa using hm
                clear hm
                go_wp2_with fail
                go_ret
                exact ⟨ret1 (show 2 = chk l by simp only [chk, if_neg H1.out, all_no HX.out HE.out]; rfl), on2 B0.out B2.out⟩
            · have hf' : decide (0 ≤ f) = false := by simpa using hf
              clear hf
              go_wp2_with fail
              go_ret
              exact ⟨ret1 (show 2 = chk l by simp only [chk, if_neg H1.out, all_no HX.out HE.out]; rfl), on2 B0.out B2.out⟩
        · have HE := Lib.hid (show mayB ((k, o0, o1, o2), f, t) = false by simp [mayB, kindB, h1])
          have h1' : decide (1 ≤ k) = false := by simpa using h1
          clear h1
          by_cases hf : 0 ≤ f
          · by_cases hm : f ≤ 9007199254740991
            · by_cases ht : t = -1
              · have ht' : (t == -1) = true := by simpa using ht
                clear ht
                go_wp2_with fail
                go_ret
                exact ⟨ret1 (show 2 = chk l by simp only [chk, if_neg H1.out, all_no HX.out HE.out]; rfl), on2 B0.out B2.out⟩
              · have ht' : (t == -1) = false := by simpa using ht
                by_cases hft : f ≤ t
                · by_cases htm : t ≤ 9007199254740991
                  ·
                    go_wp2_with fail
                    go_ret
                    exact ⟨ret1 (show 2 = chk l by simp only [chk, if_neg H1.out, all_no HX.out HE.out]; rfl), on2 B0.out B2.out⟩
                  · have htm' : decide (t ≤ 9007199254740991) = false := by simpa using htm
                    clear htm
                    go_wp2_with fail
                    go_ret
                    exact ⟨ret1 (show 2 = chk l by simp only [chk, if_neg H1.out, all_no HX.out HE.out]; rfl), on2 B0.out B2.out⟩
                · have hft' : decide (f ≤ t) = false := by simpa using hft
                  clear hft
                  go_wp2_with fail
                  go_ret
                  exact ⟨ret1 (show 2 = chk l by simp only [chk, if_neg H1.out, all_no HX.out HE.out]; rfl), on2 B0.out B2.out⟩
            · have hm' : decide (f ≤ 9007199254740991) = false := by simpa using hm
              clear hm
              go_wp2_with fail
              go_ret
              exact ⟨ret1 (show 2 = chk l by simp only [chk, if_neg H1.out, all_no HX.out HE.out]; rfl), on2 B0.out B2.out⟩
          · have hf' : decide (0 ≤ f) = false := by simpa using hf
            clear hf
            go_wp2_with fail
            go_ret
            exact ⟨ret1 (show 2 = chk l by simp only [chk, if_neg H1.out, all_no HX.out HE.out]; rfl), on2 B0.out B2.out⟩
      · obtain rfl : q = l.length := by omega
        have HC := Lib.hid (show chk l = 0 by
          have h2 := HA.out
          rw [List.take_length] at h2
          simp only [chk, if_neg H1.out, h2, if_true])
        go_wp2_with fail
        go_ret
        exact ⟨ret1 HC.out.symm, on2 B0.out BB.out⟩
end Go.Proofs.Ythmkmjoeceghiaa
