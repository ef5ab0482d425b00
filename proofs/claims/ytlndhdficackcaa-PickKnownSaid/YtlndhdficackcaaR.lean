/- PickWindows: the plain law. -/
import Derived.Test.YtlndhdficackcaaH
namespace Go.Proofs.Ytlndhdficackcaa
open Go.RowKit Go.Shelf

theorem gst_inv (l : List Int) (c : Int) : ∀ k, k ≤ l.length →
    (gst (l.take k) c).2 ≤ k ∧ (∀ i, k - (gst (l.take k) c).2 ≤ i → i < k → l[i]? ≠ some c) ∧ ((gst (l.take k) c).2 < k → l[k - (gst (l.take k) c).2 - 1]? = some c) ∧
    (∃ p, p + (gst (l.take k) c).1 ≤ k ∧ ∀ i, p ≤ i → i < p + (gst (l.take k) c).1 → l[i]? ≠ some c) ∧
    (∀ p m, p + m ≤ k → (∀ i, p ≤ i → i < p + m → l[i]? ≠ some c) → m ≤ (gst (l.take k) c).1)
  | 0, _ => by
    refine ⟨by simp [gst], fun i _ h => by omega, fun h => by omega, ⟨0, by simp [gst], fun i _ h => ?_⟩, fun p m h _ => by omega⟩
    simp [gst] at h
  | k + 1, hk => by
    obtain ⟨h1, h2, h3, ⟨p, h4, h5⟩, h6⟩ := gst_inv l c k (by omega)
    have hx : l[k]? = some l[k] := List.getElem?_eq_getElem (by omega)
    rw [take_succ hx, gst_snoc]
    generalize gst (l.take k) c = s at *
    obtain ⟨g, r⟩ := s
    simp only at h1 h2 h3 h4 h5 h6
    by_cases hc : l[k] = c
    · have he : gstep c (g, r) l[k] = (g, 0) := by simp [gstep, hc]
      rw [he]
      rw [hc] at hx
      refine ⟨by simp, fun i h7 h8 => by simp at h7; omega, fun _ => by simpa using hx, ⟨p, by simp only; omega, h5⟩, fun p' m h7 h8 => ?_⟩
      rcases Nat.lt_or_ge (p' + m) (k + 1) with h9 | h9
      · exact h6 p' m (by omega) h8
      · rcases Nat.eq_zero_or_pos m with h0 | h0
        · omega
        · exact absurd hx (h8 k (by omega) (by omega))
    · have he : gstep c (g, r) l[k] = (max g (r + 1), r + 1) := by simp [gstep, hc]
      rw [he]
      have hxc : l[k]? ≠ some c := by rw [hx]; simpa using hc
      have hsuf : ∀ i, k - r ≤ i → i < k + 1 → l[i]? ≠ some c := fun i h7 h8 => by
        rcases Nat.lt_or_ge i k with h9 | h9
        · exact h2 i h7 h9
        · obtain rfl : i = k := by omega
          exact hxc
      refine ⟨by simp only; omega, fun i h7 h8 => hsuf i (by simp only at h7; omega) h8, fun h7 => ?_, ?_, fun p' m h7 h8 => ?_⟩
      · simp only at h7 ⊢
        rw [show k + 1 - (r + 1) - 1 = k - r - 1 by omega]
        exact h3 (by omega)
      · rcases Nat.le_total g (r + 1) with h7 | h7
        · refine ⟨k - r, by simp only; omega, fun i h8 h9 => hsuf i h8 (by simp only at h9; omega)⟩
        · refine ⟨p, by simp only; omega, fun i h8 h9 => h5 i h8 (by simp only at h9; omega)⟩
      · simp only
        rcases Nat.lt_or_ge (p' + m) (k + 1) with h9 | h9
        · have := h6 p' m (by omega) h8; omega
        · rcases Nat.lt_or_ge (r + 1) m with h10 | h10
          · exact absurd (h3 (by omega)) (h8 (k - r - 1) (by omega) (by omega))
          · omega

/-- c stands in the window from p up to q -/
def has (l : List Int) (c : Int) (p q : Nat) : Prop := ∃ i, p ≤ i ∧ i < q ∧ l[i]? = some c
theorem gap_iff (l : List Int) (c : Int) {wd : Nat} : gap l c < wd ↔ ∀ p, p + wd ≤ l.length → has l c p (p + wd) := by
  obtain ⟨-, -, -, ⟨p, h4, h5⟩, h6⟩ := gst_inv l c l.length (Nat.le_refl _)
  rw [List.take_length] at h4 h5 h6
  unfold gap
  constructor
  · intro hlt q hq
    apply Classical.byContradiction
    intro hn
    have := h6 q wd hq (fun i h7 h8 h9 => hn ⟨i, h7, h8, h9⟩)
    omega
  · intro ha
    rcases Nat.lt_or_ge (gst l c).1 wd with h | h
    · exact h
    · obtain ⟨i, h7, h8, h9⟩ := ha p (by omega)
      exact absurd h9 (h5 i h7 (by omega))
theorem fair_iff {l : List Int} {n wd : Nat} (hn : 1 ≤ n ∧ n ≤ 8) (hw : 1 ≤ wd) : fairB l n wd = true ↔ ∀ p, p + wd ≤ l.length → ∀ c, c < n → has l ((c : Nat) : Int) p (p + wd) := by
  by_cases hl : l.length < wd
  · rw [fair_short (by omega) (by omega)]
    simp only [true_iff]
    intro p hp; omega
  · constructor
    · intro h p hp c hc
      refine (gap_iff l c).1 ?_ p hp
      apply Classical.byContradiction
      intro hg
      rw [fair_no (by omega) (by omega) hc (by omega)] at h
      cases h
    · intro h
      refine fair_yes (by omega) (by omega) fun c hc => ?_
      have := (gap_iff l c).2 fun p hp => h p hp c hc
      omega

/-- all windows that begin below A, of all c below n; of the one at A, all c below C -/
def allTo (l : List Int) (n wd A C : Nat) : Prop := (∀ p, p < A → ∀ c, c < n → has l ((c : Nat) : Int) p (p + wd)) ∧ ∀ c, c < C → has l ((c : Nat) : Int) A (A + wd)
theorem allTo_zero (l : List Int) (n wd : Nat) : allTo l n wd 0 0 := ⟨fun p h => by omega, fun c h => by omega⟩
theorem allTo_c (l : List Int) (n wd A C : Nat) : allTo l n wd A (C + 1) ↔ allTo l n wd A C ∧ has l ((C : Nat) : Int) A (A + wd) := by
  constructor
  · exact fun h => ⟨⟨h.1, fun c hc => h.2 c (by omega)⟩, h.2 C (by omega)⟩
  · rintro ⟨h1, h2⟩
    refine ⟨h1.1, fun c hc => ?_⟩
    rcases Nat.lt_or_ge c C with h | h
    · exact h1.2 c h
    · obtain rfl : c = C := by omega
      exact h2
theorem allTo_a (l : List Int) (n wd A : Nat) : allTo l n wd (A + 1) 0 ↔ allTo l n wd A n := by
  constructor
  · exact fun h => ⟨fun p hp => h.1 p (by omega), h.1 A (by omega)⟩
  · intro h
    refine ⟨fun p hp => ?_, fun c hc => by omega⟩
    rcases Nat.lt_or_ge p A with h' | h'
    · exact h.1 p h'
    · obtain rfl : p = A := by omega
      exact h.2
theorem fair_all {l : List Int} {n wd A : Nat} (hn : 1 ≤ n ∧ n ≤ 8) (hw : 1 ≤ wd) (hA : l.length < A + wd) (hA' : A = 0 ∨ A + wd ≤ l.length + 1) {b : Bool} (hb : b = true ↔ allTo l n wd A 0) : fairB l n wd = b := by
  rw [Bool.eq_iff_iff, fair_iff hn hw, hb]
  constructor
  · intro h
    exact ⟨fun p hp c hc => h p (by omega) c hc, fun c hc => by omega⟩
  · intro h p hp c hc
    exact h.1 p (by omega) c hc
theorem has_zero (l : List Int) (c : Int) (p : Nat) : ¬ has l c p p := fun ⟨i, h1, h2, _⟩ => by omega
theorem has_hit {l : List Int} {c : Int} {p q : Nat} (hp : p ≤ q) (h : l[q]? = some c) : has l c p (q + 1) := ⟨q, hp, by omega, h⟩
theorem has_mono {l : List Int} {c : Int} {p q : Nat} (h : has l c p q) : has l c p (q + 1) := by
  obtain ⟨i, h1, h2, h3⟩ := h; exact ⟨i, h1, by omega, h3⟩
theorem has_miss {l : List Int} {c x : Int} {p q : Nat} (h : ¬ has l c p q) (hx : l[q]? = some x) (hc : x ≠ c) : ¬ has l c p (q + 1) := by
  rintro ⟨i, h1, h2, h3⟩
  rcases Nat.lt_or_ge i q with h4 | h4
  · exact h ⟨i, h1, h4, h3⟩
  · obtain rfl : i = q := by omega
    rw [hx] at h3; exact hc (Option.some.inj h3)
end Go.Proofs.Ytlndhdficackcaa
