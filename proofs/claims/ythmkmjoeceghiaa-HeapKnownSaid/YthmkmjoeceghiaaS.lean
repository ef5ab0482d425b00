/- Keys of the map, met in a range. -/
import Derived.Test.YthmkmjoeceghiaaR
import Derived.RangeFuncSeq
import Derived.Sort.MapsRangeIn
import Derived.RangeFuncStops
import Derived.RangeFuncBox
import Derived.RangeFuncNested
import Derived.RangeFuncBound
import Derived.RangeFuncCalls
import Derived.RangeFuncLeaves
import Derived.Shelf.Abstract
import Derived.Shelf.RegionOpen
import Derived.OwnWalkIn
import Derived.TacticsInMore
import Derived.LoopNIn
import Derived.LoopIn
import Derived.Maps.AppendAt
namespace Go.Proofs.Ythmkmjoeceghiaa
open Go.RowKit Go.Maps

set_option maxRecDepth 100000 in
theorem lit_int {v : Value} {m : Nat} {ls : List Lit} (h : Try.prog.keyLits (m + 1) 3 [v] = some ls) : ∃ n, v = .int .i64 n ∧ IsI n ∧ ls = [.int .i64 n] := by
  unfold Program.keyLits at h
  rw [Try.underlying3] at h
  cases v <;> simp at h
  obtain ⟨⟨rfl, hw⟩, rfl⟩ := h
  exact ⟨_, rfl, wf_int hw, rfl⟩
set_option maxRecDepth 100000 in
theorem key_inv {v : Value} {l : Lit} (h : keyOf Try.prog 30 v = some l) : ∃ o : Ob, WfO o ∧ v = obV o ∧ l = kl o := by
  have hc : Try.prog.cellsOf 30 = 3 := by kernel_rfl
  have hc3 : Try.prog.cellsOf 3 = 1 := by kernel_rfl
  obtain ⟨m, hm⟩ : ∃ m, Try.prog.types.size = m + 1 := ⟨_, (by kernel_rfl : Try.prog.types.size = (Try.prog.types.size - 1) + 1)⟩
  unfold keyOf at h
  rw [Try.underlying30] at h
  simp only [] at h
  by_cases hf : (Try.prog.keyType 30 && v.formed Try.prog 30) = true
  · rw [if_pos hf] at h
    have hf2 := (Bool.and_eq_true_iff.1 hf).2
    clear hf
    have hv : ∃ cs : Array Value, v = .agg cs ∧ cs.size = 3 := by
      cases v <;> simp [Value.formed, Try.underlying30, hc] at hf2
      exact ⟨_, rfl, hf2⟩
    obtain ⟨⟨cs⟩, rfl, hs⟩ := hv
    match cs, hs with
    | [c0, c1, c2], _ =>
      obtain ⟨ls, h1, rfl⟩ := Option.map_eq_some_iff.1 h
      rw [show (Value.agg ⟨[c0, c1, c2]⟩).cells.toList = [c0, c1, c2] from rfl, hm] at h1
      unfold Program.keyLits at h1
      rw [Try.underlying30] at h1
      simp only [] at h1
      rw [if_pos ⟨by rw [hc]; rfl, by kernel_rfl⟩] at h1
      simp [hc3] at h1
      cases e0 : Try.prog.keyLits (m + 1) 3 [c0] with
      | none => rw [e0] at h1; cases h1
      | some l0 =>
        cases e1 : Try.prog.keyLits (m + 1) 3 [c1] with
        | none => rw [e0, e1] at h1; cases h1
        | some l1 =>
          cases e2 : Try.prog.keyLits (m + 1) 3 [c2] with
          | none => rw [e0, e1, e2] at h1; cases h1
          | some l2 =>
            rw [e0, e1, e2] at h1
            simp at h1
            obtain ⟨n0, rfl, w0, rfl⟩ := lit_int e0
            obtain ⟨n1, rfl, w1, rfl⟩ := lit_int e1
            obtain ⟨n2, rfl, w2, rfl⟩ := lit_int e2
            subst h1
            exact ⟨(n0, n1, n2), ⟨w0, w1, w2⟩, rfl, rfl⟩
  · rw [if_neg hf] at h; cases h
theorem obV_inj {a b : Ob} (h : obV a = obV b) : a = b := by
  obtain ⟨a0, a1, a2⟩ := a
  obtain ⟨b0, b1, b2⟩ := b
  simpa [obV] using h
theorem key_ob {o : Ob} {l : Lit} (h : keyOf Try.prog 30 (obV o) = some l) : WfO o ∧ l = kl o := by
  obtain ⟨x, hx, e, rfl⟩ := key_inv h
  obtain rfl := obV_inj e
  exact ⟨hx, rfl⟩
/-- which of S have come, where 'left' are still to come -/
structure Came (S : List Ob) (left : Lit → Bool) (ys : List Ob) : Prop where
  nd : ys.Nodup
  wf : ∀ x ∈ ys, WfO x
  left_mem : ∀ x, WfO x → left (kl x) = true → x ∈ S
  iff : ∀ x, WfO x → (x ∈ ys ↔ x ∈ S ∧ left (kl x) = false)
theorem Came.start {S : List Ob} {left : Lit → Bool} (h : ∀ o, WfO o → left (kl o) = decide (o ∈ S)) : Came S left [] :=
  ⟨List.nodup_nil, fun _ h => by simp at h, fun x hx h1 => by rw [h x hx] at h1; simpa using h1, fun x hx => by rw [h x hx]; simp⟩
theorem same_kl {a b : Ob} (ha : WfO a) (hb : WfO b) : (kl a).sameKey (kl b) = decide (a = b) := by
  by_cases e : a = b
  · subst e; rw [WideAt.sameKey_self (isKey a)]; simp
  · rw [decide_eq_false e, Bool.eq_false_iff]; intro h; exact e (kl_inj ha hb (WideAt.sameKey_eq h))
theorem Came.step {S : List Ob} {left : Lit → Bool} {ys : List Ob} (h : Came S left ys) {x : Ob} (hx : WfO x) (hl : left (kl x) = true) : Came S (fun z => left z && !z.sameKey (kl x)) (ys ++ [x]) := by
  have hn : x ∉ ys := fun hm => by have := ((h.iff x hx).1 hm).2; rw [hl] at this; cases this
  refine ⟨?_, ?_, ?_, ?_⟩
  · rw [List.nodup_append]
    refine ⟨h.nd, by simp, fun a ha b hb => ?_⟩
    simp at hb; subst hb
    intro e; subst e; exact hn ha
  · intro y hy
    rcases List.mem_append.1 hy with h1 | h1
    · exact h.wf y h1
    · simp at h1; subst h1; exact hx
  · intro y hy h1
    simp only [Bool.and_eq_true] at h1
    exact h.left_mem y hy h1.1
  · intro y hy
    rw [List.mem_append, h.iff y hy, same_kl hy hx]
    by_cases e : y = x
    · subst e; simp [h.left_mem y hy hl]
    · simp [e]
theorem Came.all {S : List Ob} {left : Lit → Bool} {ys : List Ob} (h : Came S left ys) (hS : ∀ o ∈ S, WfO o) (hl : ∀ z, left z = false) : ys.Nodup ∧ ∀ o, o ∈ ys ↔ o ∈ S := by
  refine ⟨h.nd, fun o => ⟨fun ho => ((h.iff o (h.wf o ho)).1 ho).1, fun ho => (h.iff o (hS o ho)).2 ⟨ho, hl _⟩⟩⟩
theorem size_le {w : World} {M n : Nat} {D : DataW Unit} {R : Value → Option (DataW Unit × List MemPlace)} (h : w.ownsMap Try.prog 30 R M n D) : Maps.size D ≤ n := by
  obtain ⟨es, clock, _, _, hs, rfl⟩ := h
  have : Maps.size (DataW.map ((es.toList.map (WideElems.rg Try.prog 30 R)).foldr DataW.insert [])) = es.size := by simp [Maps.size, length_sorted]
  omega
end Go.Proofs.Ythmkmjoeceghiaa
