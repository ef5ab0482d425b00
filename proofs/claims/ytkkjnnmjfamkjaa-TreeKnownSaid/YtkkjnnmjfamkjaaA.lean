/- Trees, in plain words. -/
import Derived.Test.YtkkjnnmjfamkjaaK
namespace Go.Proofs.Ytkkjnnmjfamkjaa
open Go.RowKit

/-- an int of 64 bits -/
def IsI (n : Int) : Prop := -9223372036854775808 ≤ n ∧ n ≤ 9223372036854775807
/-- a group: its parent, its depth, whether it is off -/
abbrev Gp := Int × Int × Bool
/-- group g, if there is one -/
def gAt (T : List Gp) (g : Int) : Option Gp := if 1 ≤ g then T[(g - 1).toNat]? else none
def pathF (T : List Gp) : Nat → Int → List Int
  | 0, _ => []
  | f + 1, g => match gAt T g with
    | none => []
    | some x => g :: pathF T f x.1
def path (T : List Gp) (g : Int) : List Int := pathF T (T.length + 1) g
/-- how a tree that was made by New and Add stands -/
structure WfT (T : List Gp) : Prop where
  le : T.length ≤ 16
  root : T[0]? = some (0, 1, false)
  up : ∀ (i : Nat) (x : Gp), T[i]? = some x → 1 ≤ i → 1 ≤ x.1 ∧ x.1 ≤ i ∧ 2 ≤ x.2.1 ∧ x.2.1 ≤ 8 ∧ ∃ y, gAt T x.1 = some y ∧ x.2.1 = y.2.1 + 1
def newT : List Gp := [(0, 1, false)]
theorem newT_wf : WfT newT := ⟨by simp [newT], rfl, fun i x h h1 => by
  cases i with
  | zero => omega
  | succ i => simp [newT] at h⟩
theorem gAt_lt {T : List Gp} {g : Int} {x : Gp} (h : gAt T g = some x) : 1 ≤ g ∧ g ≤ T.length ∧ T[(g - 1).toNat]? = some x := by
  unfold gAt at h
  split at h
  · have := (List.getElem?_eq_some_iff.1 h).1
    exact ⟨by assumption, by omega, h⟩
  · cases h
theorem gAt_none {T : List Gp} {g : Int} (h : gAt T g = none) : g < 1 ∨ (T.length : Int) < g := by
  unfold gAt at h
  split at h
  · have := List.getElem?_eq_none_iff.1 h
    omega
  · omega
/-- a group's parent comes ahead of it -/
theorem WfT.parent {T : List Gp} (h : WfT T) {g : Int} {x : Gp} (hg : gAt T g = some x) : 0 ≤ x.1 ∧ x.1 < g ∧ 1 ≤ x.2.1 ∧ x.2.1 ≤ 8 := by
  obtain ⟨h1, h2, h3⟩ := gAt_lt hg
  by_cases e : (g - 1).toNat = 0
  · rw [e, h.root] at h3
    obtain rfl := Option.some.inj h3
    simp; omega
  · have := h.up _ x h3 (by omega)
    omega
/-- more fuel than the group's number changes nothing -/
theorem WfT.fuel {T : List Gp} (h : WfT T) : ∀ (f f' : Nat) (g : Int), g < f → g < f' → pathF T f g = pathF T f' g := by
  intro f
  induction f with
  | zero =>
    intro f' g h1 h2
    cases f' with
    | zero => rfl
    | succ f' =>
      simp only [pathF]
      cases hg : gAt T g with
      | none => rfl
      | some x => have := (gAt_lt hg).1; omega
  | succ f ih =>
    intro f' g h1 h2
    cases f' with
    | zero =>
      simp only [pathF]
      cases hg : gAt T g with
      | none => rfl
      | some x => have := (gAt_lt hg).1; omega
    | succ f' =>
      simp only [pathF]
      cases hg : gAt T g with
      | none => rfl
      | some x =>
        have := h.parent hg
        simp only
        rw [ih f' x.1 (by omega) (by omega)]
theorem WfT.path_none {T : List Gp} {g : Int} (hg : gAt T g = none) : path T g = [] := by
  unfold path; simp only [pathF, hg]
theorem WfT.path_some {T : List Gp} (h : WfT T) {g : Int} {x : Gp} (hg : gAt T g = some x) : path T g = g :: path T x.1 := by
  have hp := h.parent hg
  have hl := gAt_lt hg
  unfold path
  conv => lhs; simp only [pathF, hg]
  rw [h.fuel T.length (T.length + 1) x.1 (by omega) (by omega)]
/-- the depth is the path's length -/
theorem WfT.depth {T : List Gp} (h : WfT T) : ∀ (n : Nat) (g : Int) (x : Gp), g ≤ n → gAt T g = some x → ((path T g).length : Int) = x.2.1 := by
  intro n
  induction n with
  | zero => intro g x hn hg; have := (gAt_lt hg).1; omega
  | succ n ih =>
    intro g x hn hg
    have hp := h.parent hg
    obtain ⟨h1, h2, h3⟩ := gAt_lt hg
    rw [h.path_some hg, List.length_cons]
    by_cases e : (g - 1).toNat = 0
    · rw [e, h.root] at h3
      obtain rfl := Option.some.inj h3
      rw [WfT.path_none (by unfold gAt; simp)]
      rfl
    · obtain ⟨_, _, _, _, y, hy, hd⟩ := h.up _ x h3 (by omega)
      have := ih x.1 y (by omega) hy
      push_cast
      omega
end Go.Proofs.Ytkkjnnmjfamkjaa
