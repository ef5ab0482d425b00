/- The reference's choices: the helper, a bad. -/
import Derived.Test.YthmkmjoeceghiaaPC
namespace Go.Proofs.Ythmkmjoeceghiaa
open Go.RowKit

attribute [local go_sem ↓] Go.wp_at_zero Go.wp_at_succ
theorem hlpP_iff (l : List Sp) (out : List Nat) (m : Nat) (kind : Int) (i : Nat) : hlpP l out m kind i = true ↔ i ∉ out ∧ (sp l i).1.2 = (sp l m).1.2 ∧ (sp l i).1.1 = kind ∧ (sp l i).2.1 ≤ (sp l m).2.2 := by simp [hlpP, and_assoc]
theorem badP_iff (l : List Sp) (out : List Nat) (m : Nat) (i : Nat) : badP l out m i = true ↔ i ∉ out ∧ (sp l i).1.1 = 4 ∧ (sp l i).1.2 = (sp l m).1.2 ∧ 0 ≤ (sp l i).2.2 ∧ (sp l i).2.1 ≤ (sp l m).2.2 := by simp [badP, and_assoc]
theorem no_of {p : Nat → Bool} {i : Nat} {A : Prop} (h : p i = true ↔ A) (hn : ¬ A) : p i = false := by rw [Bool.eq_false_iff, ne_eq, h]; exact hn
set_option maxRecDepth 100000 in
set_option maxHeartbeats 8000000 in
theorem helper_any (l : List Sp) (a : Option Addr) (cap D m : Nat) (kind : Int) (out : List Nat) (w : World) (hl : l.length ≤ 100000) (hm : m < l.length) (hI : IsSpans w a l) (hL : Left w D l.length out) :
    Calls Try.prog 60 #[.slice a l.length cap, .slice (some ⟨D, 0, none⟩) l.length l.length, .int .i64 m, .int .i64 kind] w fun e w' => e = .returned (.int .i64 (optI (least l (hlpP l out m kind) l.length))) ∧ Below w.heap.size w w' := by
  have HI := Lib.hid hI
  have HL := Lib.hid hL
  have m0 : (0 : Int) ≤ (m : Int) := by omega
  have m1 : (m : Int) < (l.length : Int) := by omega
  clear hI hL
  go_enter Try.func60, Try.ntmps60
  go_wp2_with fail
  go_loopw [9, 10] (fun kv iv wr => ∃ i : Nat, i ≤ l.length ∧ iv = .int .i64 i ∧ kv = .int .i64 (optI (least l (hlpP l out m kind) i)) ∧ Below w.heap.size w wr) (fun _ iv _ => l.length - (intOf iv).toNat)
  case atStart => exact ⟨0, Nat.zero_le _, rfl, rfl, Below.refl _ _⟩
  case round =>
    obtain ⟨i, hi, rfl, rfl, hB⟩ := hrel
    have BB := Lib.hid hB
    clear hB
    by_cases hlt : i < l.length
    · obtain ⟨g, off, rfl⟩ := HI.out.form (by omega)
      have ml := World.rowIs.cell (HL.out.below BB.out) (i := i) hlt
      have i0 : (0 : Int) ≤ (i : Int) := by omega
      have i1 : (i : Int) < (l.length : Int) := by omega
      have AT := Lib.hid (fun k (hk : k < l.length) => (HI.out.below BB.out).at hk)
      obtain ⟨d0, d1, d2, d3, d4, d5⟩ := AT.out i hlt
      obtain ⟨-, e1, e2, e3, -, e5⟩ := AT.out m hm
      have HP := Lib.hid (hlpP_iff l out m kind i)
      obtain ⟨⟨⟨ki, oi⟩, fi, ti⟩, hx⟩ : ∃ x, x = sp l i := ⟨_, rfl⟩
      obtain ⟨⟨⟨km, om⟩, fm, tm⟩, hy⟩ : ∃ y, y = sp l m := ⟨_, rfl⟩
      rw [← hx] at d0 d1 d2 d3 d4 d5
      rw [← hy] at e1 e2 e3 e5
      rw [← hx, ← hy] at HP
      have HX := Lib.hid hx
      dsimp only at d0 d1 d2 d3 d4 d5 e1 e2 e3 e5 HP
      clear hx hy
      by_cases hio : i ∈ out
      · have NX := Lib.hid (least_no (l := l) (no_of HP.out (fun h => h.1 hio)))
        rw [decide_eq_false (fun h => h hio)] at ml
        clear hio
        go_wp2_with fail
        go_quiet (fail)
        have BX := Lib.hid (below_drewN BB.out nq)
        go_wp2_with fail
        go_roundw
        case rel => exact ⟨i + 1, by omega, by go_num, by rw [NX.out], BX.out⟩
        case measure => simp [intOf]; omega
      · rw [decide_eq_true hio] at ml
        by_cases ho : oi = om
        · have hq := neq30 (x := oi) (y := om) false (by simpa using ho)
          by_cases hk : ki = kind
          · have hkn : (ki != kind) = false := by simpa using hk
            by_cases hf : fi ≤ tm
            · have hfn : decide (tm < fi) = false := decide_eq_false (by omega)
              have hp := Lib.hid (show hlpP l out m kind i = true from HP.out.2 ⟨hio, ho, hk, hf⟩)
              clear hio ho hk
              cases hK : least l (hlpP l out m kind) i with
              | none =>
                have NX := Lib.hid (least_fst hK hp.out)
                rw [show optI none = -1 from rfl]
                clear hK
                go_wp2_with fail
                go_quiet (fail)
                go_wp2_with fail
                go_quiet (fail)
                go_wp2_with fail
                go_roundw
                case rel => exact ⟨i + 1, by omega, by go_num, by rw [NX.out] <;> rfl, by first | exact below_drewN (below_drewN BB.out _) _ | exact below_drewN BB.out _⟩
                case measure => simp [intOf]; omega
              | some k =>
                have hkl := least_lt hK
                obtain ⟨-, -, -, -, -, c5⟩ := AT.out k (by omega)
                obtain ⟨tk, htk⟩ : ∃ tk, tk = (sp l k).2.2 := ⟨_, rfl⟩
                rw [← htk] at c5
                have hk0 : (0 : Int) ≤ (k : Int) := by omega
                have hk1 : (k : Int) < (l.length : Int) := by omega
                have hk2 : decide ((k : Int) < 0) = false := decide_eq_false (by omega)
                rw [show optI (some k) = (k : Int) from rfl]
                by_cases ht0 : 0 ≤ ti
                · by_cases htk0 : tk < 0
                  · have NX := Lib.hid (least_new hK hp.out (by rw [soon_iff, ← htk, ← HX.out]; exact ⟨ht0, .inl htk0⟩))
                    clear hK htk
                    go_wp2_with fail
                    go_quiet (fail)
                    go_wp2_with fail
                    go_quiet (fail)
                    go_wp2_with fail
                    go_roundw
                    case rel => exact ⟨i + 1, by omega, by go_num, by rw [NX.out] <;> rfl, by first | exact below_drewN (below_drewN BB.out _) _ | exact below_drewN BB.out _⟩
                    case measure => simp [intOf]; omega
                  · have htk0' : decide (tk < 0) = false := by simpa using htk0
                    by_cases hlt2 : ti < tk
                    · have NX := Lib.hid (least_new hK hp.out (by rw [soon_iff, ← htk, ← HX.out]; exact ⟨ht0, .inr hlt2⟩))
                      clear hK htk htk0
                      go_wp2_with fail
                      go_quiet (fail)
                      go_wp2_with fail
                      go_quiet (fail)
                      go_wp2_with fail
                      go_roundw
                      case rel => exact ⟨i + 1, by omega, by go_num, by rw [NX.out] <;> rfl, by first | exact below_drewN (below_drewN BB.out _) _ | exact below_drewN BB.out _⟩
                      case measure => simp [intOf]; omega
                    · have NX := Lib.hid (least_old hK (by rw [soon_no, ← htk, ← HX.out]; exact fun h => h.2.elim htk0 hlt2))
                      have hlt2' : decide (ti < tk) = false := by simpa using hlt2
                      clear hK htk htk0 hlt2
                      go_wp2_with fail
                      go_quiet (fail)
                      go_wp2_with fail
                      go_quiet (fail)
                      go_wp2_with fail
                      go_roundw
                      case rel => exact ⟨i + 1, by omega, by go_num, by rw [NX.out] <;> rfl, by first | exact below_drewN (below_drewN BB.out _) _ | exact below_drewN BB.out _⟩
                      case measure => simp [intOf]; omega
                · have NX := Lib.hid (least_old hK (by rw [soon_no, ← htk, ← HX.out]; exact fun h => ht0 h.1))
                  have ht0' : decide (0 ≤ ti) = false := by simpa using ht0
                  clear hK htk ht0
                  go_wp2_with fail
                  go_quiet (fail)
                  go_wp2_with fail
                  go_quiet (fail)
                  go_wp2_with fail
                  go_roundw
                  case rel => exact ⟨i + 1, by omega, by go_num, by rw [NX.out] <;> rfl, by first | exact below_drewN (below_drewN BB.out _) _ | exact below_drewN BB.out _⟩
                  case measure => simp [intOf]; omega
            · have NX := Lib.hid (least_no (l := l) (no_of HP.out (fun h => hf h.2.2.2)))
              have hfn : tm < fi := by omega
              clear hio ho hk hf
              go_wp2_with fail
              go_quiet (fail)
              have BX := Lib.hid (below_drewN BB.out nq)
              go_wp2_with fail
              go_roundw
              case rel => exact ⟨i + 1, by omega, by go_num, by rw [NX.out], BX.out⟩
              case measure => simp [intOf]; omega
          · have NX := Lib.hid (least_no (l := l) (no_of HP.out (fun h => hk h.2.2.1)))
            have hkn : (ki != kind) = true := by simpa using hk
            clear hio ho hk
            go_wp2_with fail
            go_quiet (fail)
            have BX := Lib.hid (below_drewN BB.out nq)
            go_wp2_with fail
            go_roundw
            case rel => exact ⟨i + 1, by omega, by go_num, by rw [NX.out], BX.out⟩
            case measure => simp [intOf]; omega
        · have NX := Lib.hid (least_no (l := l) (no_of HP.out (fun h => ho h.2.1)))
          have hq := neq30 (x := oi) (y := om) true (by simpa using ho)
          clear hio ho
          go_wp2_with fail
          go_quiet (fail)
          have BX := Lib.hid (below_drewN BB.out nq)
          go_wp2_with fail
          go_roundw
          case rel => exact ⟨i + 1, by omega, by go_num, by rw [NX.out], BX.out⟩
          case measure => simp [intOf]; omega
    · obtain rfl : i = l.length := by omega
      go_wp2_with fail
      go_ret
      exact ⟨rfl, BB.out⟩
set_option maxRecDepth 100000 in
set_option maxHeartbeats 8000000 in
theorem rbad_any (l : List Sp) (a : Option Addr) (cap D m : Nat) (out : List Nat) (w : World) (hl : l.length ≤ 100000) (hm : m < l.length) (hI : IsSpans w a l) (hL : Left w D l.length out) :
    Calls Try.prog 61 #[.slice a l.length cap, .slice (some ⟨D, 0, none⟩) l.length l.length, .int .i64 m] w fun e w' => e = .returned (.int .i64 (optI (bad l out m))) ∧ Below w.heap.size w w' := by
  have HI := Lib.hid hI
  have HL := Lib.hid hL
  have m0 : (0 : Int) ≤ (m : Int) := by omega
  have m1 : (m : Int) < (l.length : Int) := by omega
  clear hI hL
  go_enter Try.func61, Try.ntmps61
  go_wp2_with fail
  go_loopw [7, 8] (fun kv iv wr => ∃ i : Nat, i ≤ l.length ∧ iv = .int .i64 i ∧ kv = .int .i64 (optI (least l (badP l out m) i)) ∧ Below w.heap.size w wr) (fun _ iv _ => l.length - (intOf iv).toNat)
  case atStart => exact ⟨0, Nat.zero_le _, rfl, rfl, Below.refl _ _⟩
  case round =>
    obtain ⟨i, hi, rfl, rfl, hB⟩ := hrel
    have BB := Lib.hid hB
    clear hB
    by_cases hlt : i < l.length
    · obtain ⟨g, off, rfl⟩ := HI.out.form (by omega)
      have ml := World.rowIs.cell (HL.out.below BB.out) (i := i) hlt
      have i0 : (0 : Int) ≤ (i : Int) := by omega
      have i1 : (i : Int) < (l.length : Int) := by omega
      have AT := Lib.hid (fun k (hk : k < l.length) => (HI.out.below BB.out).at hk)
      obtain ⟨d0, d1, d2, d3, d4, d5⟩ := AT.out i hlt
      obtain ⟨-, e1, e2, e3, -, e5⟩ := AT.out m hm
      have HP := Lib.hid (badP_iff l out m i)
      obtain ⟨⟨⟨ki, oi⟩, fi, ti⟩, hx⟩ : ∃ x, x = sp l i := ⟨_, rfl⟩
      obtain ⟨⟨⟨km, om⟩, fm, tm⟩, hy⟩ : ∃ y, y = sp l m := ⟨_, rfl⟩
      rw [← hx] at d0 d1 d2 d3 d4 d5
      rw [← hy] at e1 e2 e3 e5
      rw [← hx, ← hy] at HP
      have HX := Lib.hid hx
      dsimp only at d0 d1 d2 d3 d4 d5 e1 e2 e3 e5 HP
      clear hx hy
      by_cases hio : i ∈ out
      · have NX := Lib.hid (least_no (l := l) (no_of HP.out (fun h => h.1 hio)))
        rw [decide_eq_false (fun h => h hio)] at ml
        clear hio
        go_wp2_with fail
        go_quiet (fail)
        go_wp2_with fail
        go_quiet (fail)
        go_wp2_with fail
        go_roundw
        case rel => exact ⟨i + 1, by omega, by go_num, by rw [NX.out], by first | exact below_drewN (below_drewN BB.out _) _ | exact below_drewN BB.out _⟩
        case measure => simp [intOf]; omega
      · rw [decide_eq_true hio] at ml
        by_cases hk : ki = 4
        · have hkn : (ki == 4) = true := by simpa using hk
          by_cases ho : oi = om
          · have hq := eql30 (x := oi) (y := om) true (by simpa using ho)
            by_cases ht0 : 0 ≤ ti
            · by_cases hf : fi ≤ tm
              · have hp := Lib.hid (show badP l out m i = true from HP.out.2 ⟨hio, hk, ho, ht0, hf⟩)
                clear hio ho hk
                cases hK : least l (badP l out m) i with
                | none =>
                  have NX := Lib.hid (least_fst hK hp.out)
                  rw [show optI none = -1 from rfl]
                  clear hK
                  go_wp2_with fail
                  go_quiet (fail)
                  go_wp2_with fail
                  go_quiet (fail)
                  go_wp2_with fail
                  go_roundw
                  case rel => exact ⟨i + 1, by omega, by go_num, by rw [NX.out] <;> rfl, by first | exact below_drewN (below_drewN BB.out _) _ | exact below_drewN BB.out _⟩
                  case measure => simp [intOf]; omega
                | some k =>
                  have hkl := least_lt hK
                  have hkp := ((badP_iff l out m k).1 (least_p hK)).2.2.2.1
                  obtain ⟨-, -, -, -, -, c5⟩ := AT.out k (by omega)
                  obtain ⟨tk, htk⟩ : ∃ tk, tk = (sp l k).2.2 := ⟨_, rfl⟩
                  rw [← htk] at c5 hkp
                  have hk0 : (0 : Int) ≤ (k : Int) := by omega
                  have hk1 : (k : Int) < (l.length : Int) := by omega
                  have hk2 : decide ((k : Int) < 0) = false := decide_eq_false (by omega)
                  rw [show optI (some k) = (k : Int) from rfl]
                  by_cases hlt2 : ti < tk
                  · have NX := Lib.hid (least_new hK hp.out (by rw [soon_iff, ← htk, ← HX.out]; exact ⟨ht0, .inr hlt2⟩))
                    clear hK htk
                    go_wp2_with fail
                    go_quiet (fail)
                    go_wp2_with fail
                    go_quiet (fail)
                    go_wp2_with fail
                    go_roundw
                    case rel => exact ⟨i + 1, by omega, by go_num, by rw [NX.out] <;> rfl, by first | exact below_drewN (below_drewN BB.out _) _ | exact below_drewN BB.out _⟩
                    case measure => simp [intOf]; omega
                  · have NX := Lib.hid (least_old hK (by rw [soon_no, ← htk, ← HX.out]; exact fun h => h.2.elim (by omega) hlt2))
                    have hlt2' : decide (ti < tk) = false := by simpa using hlt2
                    clear hK htk hlt2
                    go_wp2_with fail
                    go_quiet (fail)
                    go_wp2_with fail
                    go_quiet (fail)
                    go_wp2_with fail
                    go_roundw
                    case rel => exact ⟨i + 1, by omega, by go_num, by rw [NX.out] <;> rfl, by first | exact below_drewN (below_drewN BB.out _) _ | exact below_drewN BB.out _⟩
                    case measure => simp [intOf]; omega
              · have NX := Lib.hid (least_no (l := l) (no_of HP.out (fun h => hf h.2.2.2.2)))
                have hfn : decide (fi ≤ tm) = false := by simpa using hf
                clear hio ho hk hf
                go_wp2_with fail
                go_quiet (fail)
                go_wp2_with fail
                go_quiet (fail)
                go_wp2_with fail
                go_roundw
                case rel => exact ⟨i + 1, by omega, by go_num, by rw [NX.out], by first | exact below_drewN (below_drewN BB.out _) _ | exact below_drewN BB.out _⟩
                case measure => simp [intOf]; omega
            · have NX := Lib.hid (least_no (l := l) (no_of HP.out (fun h => ht0 h.2.2.2.1)))
              have ht0' : decide (0 ≤ ti) = false := by simpa using ht0
              clear hio ho hk ht0
              go_wp2_with fail
              go_quiet (fail)
              go_wp2_with fail
              go_quiet (fail)
              go_wp2_with fail
              go_roundw
              case rel => exact ⟨i + 1, by omega, by go_num, by rw [NX.out], by first | exact below_drewN (below_drewN BB.out _) _ | exact below_drewN BB.out _⟩
              case measure => simp [intOf]; omega
          · have NX := Lib.hid (least_no (l := l) (no_of HP.out (fun h => ho h.2.2.1)))
            have hq := eql30 (x := oi) (y := om) false (by simpa using ho)
            clear hio ho hk
            go_wp2_with fail
            go_quiet (fail)
            go_wp2_with fail
            go_quiet (fail)
            go_wp2_with fail
            go_roundw
            case rel => exact ⟨i + 1, by omega, by go_num, by rw [NX.out], by first | exact below_drewN (below_drewN BB.out _) _ | exact below_drewN BB.out _⟩
            case measure => simp [intOf]; omega
        · have NX := Lib.hid (least_no (l := l) (no_of HP.out (fun h => hk h.2.1)))
          have hkn : (ki == 4) = false := by simpa using hk
          clear hio hk
          go_wp2_with fail
          go_quiet (fail)
          go_wp2_with fail
          go_quiet (fail)
          go_wp2_with fail
          go_roundw
          case rel => exact ⟨i + 1, by omega, by go_num, by rw [NX.out], by first | exact below_drewN (below_drewN BB.out _) _ | exact below_drewN BB.out _⟩
          case measure => simp [intOf]; omega
    · obtain rfl : i = l.length := by omega
      have hE : optI (least l (badP l out m) l.length) = optI (bad l out m) := rfl
      rw [hE]
      clear hE
      go_wp2_with fail
      go_ret
      exact ⟨rfl, BB.out⟩
end Go.Proofs.Ythmkmjoeceghiaa
