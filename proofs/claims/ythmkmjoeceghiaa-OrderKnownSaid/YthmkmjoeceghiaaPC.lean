/- The reference's choices: the most urgent call, its helper, a bad. -/
import Derived.Test.YthmkmjoeceghiaaPA
import Derived.Deep.OwnRows
namespace Go.Proofs.Ythmkmjoeceghiaa
open Go.RowKit

attribute [local go_sem ↓] Go.wp_at_zero Go.wp_at_succ
def optI : Option Nat → Int
  | none => -1
  | some k => k
theorem least_no {l : List Sp} {p : Nat → Bool} {i : Nat} (h : p i = false) : least l p (i + 1) = least l p i := by
  show (match least l p i with | none => if p i = true then some i else none | some k => if p i = true ∧ soon (sp l i) (sp l k) = true then some i else some k) = _
  rw [h]
  cases least l p i <;> simp
theorem least_fst {l : List Sp} {p : Nat → Bool} {i : Nat} (h : least l p i = none) (hp : p i = true) : least l p (i + 1) = some i := by
  show (match least l p i with | none => if p i = true then some i else none | some k => if p i = true ∧ soon (sp l i) (sp l k) = true then some i else some k) = _
  rw [h]; simp [hp]
theorem least_new {l : List Sp} {p : Nat → Bool} {i k : Nat} (h : least l p i = some k) (hp : p i = true) (hs : soon (sp l i) (sp l k) = true) : least l p (i + 1) = some i := by
  show (match least l p i with | none => if p i = true then some i else none | some k => if p i = true ∧ soon (sp l i) (sp l k) = true then some i else some k) = _
  rw [h]; simp [hp, hs]
theorem least_old {l : List Sp} {p : Nat → Bool} {i k : Nat} (h : least l p i = some k) (hs : soon (sp l i) (sp l k) = false) : least l p (i + 1) = some k := by
  show (match least l p i with | none => if p i = true then some i else none | some k => if p i = true ∧ soon (sp l i) (sp l k) = true then some i else some k) = _
  rw [h]; simp [hs]
theorem least_lt {l : List Sp} {p : Nat → Bool} {i k : Nat} (h : least l p i = some k) : k < i := (least_some.1 h).1
theorem least_p {l : List Sp} {p : Nat → Bool} {i k : Nat} (h : least l p i = some k) : p k = true := (least_some.1 h).2.1
/-- what is left, in a row -/
def Left (w : World) (D n : Nat) (out : List Nat) : Prop := w.rowIs D 4 n (fun i => .bool (decide (i ∉ out)))
theorem Left.below {w w' : World} {D n : Nat} {out : List Nat} (h : Left w D n out) (hb : Below w.heap.size w w') : Left w' D n out := World.rowIs.of_block h (hb.block _ (World.rowIs.lt h))
/-- call i's cells -/
theorem IsSpans.at {w : World} {g off : Nat} {l : List Sp} (h : IsSpans w (some ⟨g, off, none⟩) l) {i : Nat} (hi : i < l.length) :
    w.cell? ⟨g, off + i * 6, none⟩ = some (.int .i64 (sp l i).1.1) ∧ w.cell? ⟨g, off + i * 6 + 1, none⟩ = some (.int .i64 (sp l i).1.2.1) ∧ w.cell? ⟨g, off + i * 6 + 2, none⟩ = some (.int .i64 (sp l i).1.2.2.1) ∧
    w.cell? ⟨g, off + i * 6 + 3, none⟩ = some (.int .i64 (sp l i).1.2.2.2) ∧ w.cell? ⟨g, off + i * 6 + 4, none⟩ = some (.int .i64 (sp l i).2.1) ∧ w.cell? ⟨g, off + i * 6 + 5, none⟩ = some (.int .i64 (sp l i).2.2) := by
  obtain ⟨g', off', he, hc⟩ := h (by intro e; rw [e] at hi; simp at hi)
  obtain ⟨rfl, rfl⟩ : g = g' ∧ off = off' := by simpa using he
  have hx := List.getElem?_eq_getElem hi
  rw [sp_at hx]
  exact hc i _ hx
theorem IsSpans.form {w : World} {a : Option Addr} {l : List Sp} (h : IsSpans w a l) (hl : 0 < l.length) : ∃ g off, a = some ⟨g, off, none⟩ := by
  obtain ⟨g, off, he, _⟩ := h (by intro e; rw [e] at hl; simp at hl)
  exact ⟨g, off, he⟩
theorem urgP_iff (l : List Sp) (out : List Nat) (i : Nat) : urgP l out i = true ↔ i ∉ out ∧ 0 ≤ (sp l i).2.2 := by simp [urgP]
set_option maxRecDepth 100000 in
set_option maxHeartbeats 4000000 in
theorem urgent_any (l : List Sp) (a : Option Addr) (cap D : Nat) (out : List Nat) (w : World) (hl : l.length ≤ 100000) (hI : IsSpans w a l) (hL : Left w D l.length out) :
    Calls Try.prog 59 #[.slice a l.length cap, .slice (some ⟨D, 0, none⟩) l.length l.length] w fun e w' => e = .returned (.int .i64 (optI (urg l out))) ∧ Below w.heap.size w w' := by
  have HI := Lib.hid hI
  have HL := Lib.hid hL
  clear hI hL
  go_enter Try.func59, Try.ntmps59
  go_wp2_with fail
  go_loopw [5, 6] (fun kv iv wr => ∃ i : Nat, i ≤ l.length ∧ iv = .int .i64 i ∧ kv = .int .i64 (optI (least l (urgP l out) i)) ∧ Below w.heap.size w wr) (fun _ iv _ => l.length - (intOf iv).toNat)
  case atStart => exact ⟨0, Nat.zero_le _, rfl, rfl, Below.refl _ _⟩
  case round =>
    obtain ⟨i, hi, rfl, rfl, hB⟩ := hrel
    have BB := Lib.hid hB
    clear hB
    by_cases hlt : i < l.length
    · obtain ⟨g, off, rfl⟩ := HI.out.form (by omega)
      obtain ⟨-, -, -, -, -, d5⟩ := (HI.out.below BB.out).at hlt
      have ml := World.rowIs.cell (HL.out.below BB.out) (i := i) hlt
      have i0 : (0 : Int) ≤ (i : Int) := by omega
      have i1 : (i : Int) < (l.length : Int) := by omega
      have AT := Lib.hid (fun k (hk : k < l.length) => ((HI.out.below BB.out).at hk).2.2.2.2.2)
      obtain ⟨t, ht⟩ : ∃ t, t = (sp l i).2.2 := ⟨_, rfl⟩
      rw [← ht] at d5
      have HT := Lib.hid ht
      clear ht
      by_cases hio : i ∈ out
      · have NX := Lib.hid (least_no (l := l) (p := urgP l out) (i := i) (by rw [Bool.eq_false_iff, ne_eq, urgP_iff]; exact fun h => h.1 hio))
        rw [decide_eq_false (fun h => h hio)] at ml
        clear hio
        go_wp2_with fail
        go_quiet (fail)
        have BX := Lib.hid (below_drewN BB.out nq)
        go_wp2_with fail
        go_roundw
        case rel => exact ⟨i + 1, by omega, by go_num, by rw [NX.out], BX.out⟩
        case measure => simp [intOf]; omega
      · rw [decide_eq_true hio] at ml
        by_cases ht0 : 0 ≤ t
        · have hp := Lib.hid (show urgP l out i = true by rw [urgP_iff]; exact ⟨hio, by rw [← HT.out]; exact ht0⟩)
          clear hio
          cases hK : least l (urgP l out) i with
          | none =>
            have NX := Lib.hid (least_fst hK hp.out)
            have hneg : (-1 : Int) < 0 := by omega
            rw [show optI none = -1 from rfl]
            clear hK
            go_wp2_with fail
            go_quiet (fail)
            have BX := Lib.hid (below_drewN BB.out nq)
            go_wp2_with fail
            go_roundw
            case rel => exact ⟨i + 1, by omega, by go_num, by rw [NX.out] <;> rfl, BX.out⟩
            case measure => simp [intOf]; omega
          | some k =>
            have hkl := least_lt hK
            have hkp := (urgP_iff l out k).1 (least_p hK)
            have e5 := AT.out k (by omega)
            obtain ⟨tk, htk⟩ : ∃ tk, tk = (sp l k).2.2 := ⟨_, rfl⟩
            rw [← htk] at e5
            have hk0 : (0 : Int) ≤ (k : Int) := by omega
            have hk1 : (k : Int) < (l.length : Int) := by omega
            have hk2 : decide ((k : Int) < 0) = false := decide_eq_false (by omega)
            rw [show optI (some k) = (k : Int) from rfl]
            by_cases hlt2 : t < tk
            · have NX := Lib.hid (least_new hK hp.out (by rw [soon_iff, ← htk, ← HT.out]; omega))
              clear hK hkp htk
              go_wp2_with fail
              go_quiet (fail)
              have BX := Lib.hid (below_drewN BB.out nq)
              go_wp2_with fail
              go_roundw
              case rel => exact ⟨i + 1, by omega, by go_num, by rw [NX.out] <;> rfl, BX.out⟩
              case measure => simp [intOf]; omega
            · have NX := Lib.hid (least_old hK (by rw [soon_no, ← htk, ← HT.out]; have := hkp.2; omega))
              have hlt2' : decide (t < tk) = false := by simpa using hlt2
              clear hK hkp htk hlt2
              go_wp2_with fail
              go_quiet (fail)
              have BX := Lib.hid (below_drewN BB.out nq)
              go_wp2_with fail
              go_roundw
              case rel => exact ⟨i + 1, by omega, by go_num, by rw [NX.out] <;> rfl, BX.out⟩
              case measure => simp [intOf]; omega
        · have NX := Lib.hid (least_no (l := l) (p := urgP l out) (i := i) (by rw [Bool.eq_false_iff, ne_eq, urgP_iff, ← HT.out]; exact fun h => ht0 h.2))
          have ht0' : decide (0 ≤ t) = false := by simpa using ht0
          clear hio ht0
          go_wp2_with fail
          go_quiet (fail)
          have BX := Lib.hid (below_drewN BB.out nq)
          go_wp2_with fail
          go_roundw
          case rel => exact ⟨i + 1, by omega, by go_num, by rw [NX.out], BX.out⟩
          case measure => simp [intOf]; omega
    · obtain rfl : i = l.length := by omega
      have hE : optI (least l (urgP l out) l.length) = optI (urg l out) := rfl
      rw [hE]
      clear hE
      go_wp2_with fail
      go_ret
      exact ⟨rfl, BB.out⟩
end Go.Proofs.Ythmkmjoeceghiaa
