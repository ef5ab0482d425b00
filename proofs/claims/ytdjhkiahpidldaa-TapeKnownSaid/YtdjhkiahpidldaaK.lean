/- Words of this seat's own: a slice that reads as a list; what is kept behind a call. -/
import Derived.Test.YtdjhkiahpidldaaRows
import Derived.WalkKit
import Derived.WalkSpells
import Derived.WalkLawsBesides
import Derived.Lib.Hide
import Derived.BigQuiet
import Derived.Lib.QuietBelow
import Derived.Deep.LoopGhost
namespace Go.Proofs.Ytdjhkiahpidldaa
open Go.RowKit

/-- behind two calls -/
theorem on {w a b : World} (h : Below w.heap.size w a) (k : Below a.heap.size a b) : Below w.heap.size w b := h.trans (k.mono h.size)
theorem ret1 {k : IntKind} {a b : Int} (h : a = b) : Ending.returned (.int k a) = .returned (.int k b) := by rw [h]
theorem retB {a b : Bool} (h : a = b) : Ending.returned (.bool a) = .returned (.bool b) := by rw [h]
theorem retIB {k : IntKind} {a b : Int} {x y : Bool} (h : a = b) (h' : x = y) : Ending.returned (.tuple #[.int k a, .bool x]) = .returned (.tuple #[.int k b, .bool y]) := by rw [h, h']
theorem retII {k k' : IntKind} {a b a' b' : Int} (h : a = a') (h' : b = b') : Ending.returned (.tuple #[.int k a, .int k' b]) = .returned (.tuple #[.int k a', .int k' b']) := by rw [h, h']
theorem wf_bd {n : Int} (h : (Lit.int .i64 n).wf = true) : -9223372036854775808 ≤ n ∧ n ≤ 9223372036854775807 := by
  simpa [Lit.wf, IntKind.min, IntKind.max, IntKind.signed, IntKind.bits] using h

/-- THE SLICE AT a, OF xs.length ELEMENTS OF ONE CELL, READS AS xs. -/
def IsSl {α : Type} (enc : α → Value) (w : World) (a : Option Addr) (xs : List α) : Prop :=
  xs.length ≤ 9223372036854775807 ∧ (xs ≠ [] → ∃ b off, a = some ⟨b, off, none⟩ ∧ ∀ i x, xs[i]? = some x → w.cell? ⟨b, off + i, none⟩ = some (enc x))

section
variable {α : Type} {enc : α → Value} {w w' : World} {a : Option Addr} {xs : List α}
theorem IsSl.len (h : IsSl enc w a xs) : xs.length ≤ 9223372036854775807 := h.1
theorem IsSl.nil : IsSl enc w a [] := ⟨by simp, fun h => absurd rfl h⟩
theorem IsSl.at (h : IsSl enc w a xs) {k : Nat} (hk : k < xs.length) : ∃ b off x, a = some ⟨b, off, none⟩ ∧ xs[k]? = some x ∧ w.cell? ⟨b, off + k, none⟩ = some (enc x) := by
  obtain ⟨b, off, ha, hc⟩ := h.2 (by intro e; simp [e] at hk)
  exact ⟨b, off, xs[k], ha, List.getElem?_eq_getElem hk, hc k _ (List.getElem?_eq_getElem hk)⟩
theorem IsSl.keep (h : IsSl enc w a xs) (hk : ∀ b o v, w.cell? ⟨b, o, none⟩ = some v → w'.cell? ⟨b, o, none⟩ = some v) : IsSl enc w' a xs :=
  ⟨h.1, fun hne => by obtain ⟨b, off, ha, hc⟩ := h.2 hne; exact ⟨b, off, ha, fun i x hx => hk _ _ _ (hc i x hx)⟩⟩
theorem below_cell {B : Nat} (hb : Below B w w') (hB : w.heap.size ≤ B) {b o : Nat} {v : Value} (h : w.cell? ⟨b, o, none⟩ = some v) : w'.cell? ⟨b, o, none⟩ = some v := by
  have := World.block_lt_of_cell? w _ h
  rw [hb.cell (by show b < B; simp at this; omega)]; exact h
theorem IsSl.below (h : IsSl enc w a xs) (hb : Below w.heap.size w w') : IsSl enc w' a xs := h.keep fun _ _ _ hc => below_cell hb (Nat.le_refl _) hc
theorem IsSl.take (h : IsSl enc w a xs) (n : Nat) : IsSl enc w a (xs.take n) :=
  ⟨by have := h.1; have := List.length_take_le n xs; have := List.length_take_le' n xs; omega, fun hne => by
    obtain ⟨b, off, ha, hc⟩ := h.2 (by intro e; simp [e] at hne)
    exact ⟨b, off, ha, fun i x hx => hc i x (by rw [List.getElem?_take] at hx; split at hx <;> simp_all)⟩⟩
end

theorem take_succ {α : Type} {xs : List α} {k : Nat} {x : α} (h : xs[k]? = some x) : xs.take (k + 1) = xs.take k ++ [x] := by
  obtain ⟨hk, rfl⟩ := List.getElem?_eq_some_iff.1 h
  exact List.take_succ_eq_append_getElem hk

/-- a slice that the call has built reads as what it holds -/
theorem isSl_of_owns {α : Type} {enc : α → Value} {w : World} {base : Nat} {e : TypeId} {v : Value} {xs : List α} (h : w.ownsRow base e 1 v xs.length (xs.map enc)) :
    ∃ a cap, v = .slice a xs.length cap ∧ IsSl enc w a xs ∧ (∀ b o, a = some ⟨b, o, none⟩ → base ≤ b ∧ b < w.heap.size) ∧ (xs = [] → cap = 0 → True) := by
  rcases h.2 with ⟨rfl, hn⟩ | ⟨g, cap, cur, rfl, hb, hg, hnc, hcm, hcs, htake⟩
  · obtain rfl : xs = [] := List.eq_nil_of_length_eq_zero hn
    exact ⟨none, 0, rfl, IsSl.nil, (fun b o hh => by cases hh), fun _ _ => trivial⟩
  · refine ⟨some ⟨g, 0, none⟩, cap, rfl, ⟨by unfold maxLen at hcm; omega, fun _ => ⟨g, 0, rfl, fun i x hx => ?_⟩⟩, ?_, fun _ _ => trivial⟩
    · have := h.cells (g := g) rfl i (enc x) (by rw [List.getElem?_map, hx]; rfl)
      have hadd : (⟨g, 0, none⟩ : Addr).add i = ⟨g, i, none⟩ := by unfold Addr.add; split <;> simp_all
      rw [hadd] at this; simpa using this
    · intro b o hh
      cases hh
      exact ⟨hb, (Array.getElem?_eq_some_iff.1 hg).1⟩

end Go.Proofs.Ytdjhkiahpidldaa
