/- A list of deeds plays just if, for each object, its deeds alone do. -/
import Derived.Test.YthmkmjoeceghiaaA
namespace Go.Proofs.Ythmkmjoeceghiaa

/-- all deeds are done without an error -/
def okL (S : List Ob) : List Dd → Prop
  | [] => True
  | d :: l => doE S d = 0 ∧ okL (doS S d) l
/-- a deed of its own kind -/
def Fine (d : Dd) : Prop := 1 ≤ d.1 ∧ d.1 ≤ 4 ∧ (d.1 = 2 → d.2 = (0, 0, 0))
def mine (o : Ob) (d : Dd) : Bool := decide (d.2 = o) && decide (d.1 ≠ 2)
def aloneL (l : List Dd) (o : Ob) : List Dd := l.filter (mine o)
theorem playFrom_ok : ∀ (l : List Dd) (S : List Ob) (i : Nat), (playFrom S i l).2 = 0 ↔ okL S l
  | [], S, i => by simp [playFrom, okL]
  | d :: l, S, i => by
    by_cases h : doE S d = 0
    · simp [playFrom, okL, h, playFrom_ok l]
    · simp [playFrom, okL, h]
theorem playR_okL (l : List Dd) : (playR l).2 = 0 ↔ okL [] l := playFrom_ok l [] 0
theorem doE_fine {S : List Ob} {d : Dd} (h : Fine d) : doE S d = if d.1 = 2 then 0 else if decide (d.2 ∈ S) ≠ decide (d.1 = 3) then 270 else 0 := by
  unfold doE
  rw [if_neg]
  rintro (h1 | h1 | ⟨h1, h2⟩)
  · have := h.1; omega
  · have := h.2.1; omega
  · exact h2 (h.2.2 h1)
theorem doE_same {S S' : List Ob} {d : Dd} (h : Fine d) (e : d.2 ∈ S ↔ d.2 ∈ S') : doE S d = doE S' d := by
  rw [doE_fine h, doE_fine h]
  have : decide (d.2 ∈ S) = decide (d.2 ∈ S') := by rw [Bool.eq_iff_iff]; simpa using e
  rw [this]
/-- a deed's own object behind it -/
theorem mem_doS_own {S S' : List Ob} {d : Dd} (h : Fine d) (e : d.2 ∈ S ↔ d.2 ∈ S') : d.2 ∈ doS S d ↔ d.2 ∈ doS S' d := by
  have hE := doE_same h e
  unfold doS
  rw [hE]
  split
  · exact e
  · split
    · simp [mem_putL]
    · split
      · simp [mem_dropL]
      · exact e
/-- another object behind it -/
theorem mem_doS_other {S : List Ob} {d : Dd} {o : Ob} (h : o ≠ d.2) : o ∈ doS S d ↔ o ∈ S := by
  unfold doS
  split
  · rfl
  · split
    · simp [mem_putL, h]
    · split
      · simp [mem_dropL, h]
      · rfl
theorem doS_none {S : List Ob} {d : Dd} (h : d.1 = 2) : doS S d = S := by
  unfold doS
  split
  · rfl
  · rw [if_neg (by omega), if_neg (by omega)]
theorem okL_alone : ∀ (l : List Dd) (S : List Ob) (T : Ob → List Ob), (∀ d ∈ l, Fine d) → (∀ o, o ∈ S ↔ o ∈ T o) → (okL S l ↔ ∀ o, okL (T o) (aloneL l o))
  | [], S, T, _, _ => by simp [okL, aloneL]
  | d :: l, S, T, hf, hT => by
    have hfd := hf d (by simp)
    have hfl : ∀ x ∈ l, Fine x := fun x hx => hf x (by simp [hx])
    by_cases h2 : d.1 = 2
    · have e0 : doE S d = 0 := by rw [doE_fine hfd, if_pos h2]
      have e1 : ∀ o, aloneL (d :: l) o = aloneL l o := fun o => by simp [aloneL, List.filter_cons, mine, h2]
      simp only [okL, e0, true_and, doS_none h2, e1]
      exact okL_alone l S T hfl hT
    · have ih := okL_alone l (doS S d) (fun o => if o = d.2 then doS (T o) d else T o) hfl (fun o => by
        by_cases ho : o = d.2
        · subst ho; simp only [if_true]; exact mem_doS_own hfd (hT _)
        · simp only [if_neg ho]; rw [mem_doS_other ho]; exact hT o)
      have e1 : aloneL (d :: l) d.2 = d :: aloneL l d.2 := by simp [aloneL, List.filter_cons, mine, h2]
      have e2 : ∀ o, o ≠ d.2 → aloneL (d :: l) o = aloneL l o := fun o ho => by
        have : mine o d = false := by simp [mine, Ne.symm ho]
        simp [aloneL, List.filter_cons, this]
      constructor
      · rintro ⟨h0, hl⟩ o
        have := ih.1 hl o
        by_cases ho : o = d.2
        · subst ho
          rw [e1]
          simp only [if_true] at this
          exact ⟨by rw [← doE_same hfd (hT d.2)]; exact h0, this⟩
        · rw [e2 o ho]; simp only [if_neg ho] at this; exact this
      · intro h
        have hd := h d.2
        rw [e1] at hd
        refine ⟨by rw [doE_same hfd (hT d.2)]; exact hd.1, ih.2 fun o => ?_⟩
        by_cases ho : o = d.2
        · subst ho; simp only [if_true]; exact hd.2
        · simp only [if_neg ho]; have := h o; rwa [e2 o ho] at this
/-- the law -/
theorem plays_alone (l : List Dd) (hf : ∀ d ∈ l, Fine d) : (playR l).2 = 0 ↔ ∀ d ∈ l, (playR (aloneL l d.2)).2 = 0 := by
  rw [playR_okL, okL_alone l [] (fun _ => []) hf (fun _ => Iff.rfl)]
  constructor
  · intro h d _
    exact (playR_okL _).2 (h d.2)
  · intro h o
    by_cases ho : ∃ d ∈ l, d.2 = o
    · obtain ⟨d, hd, rfl⟩ := ho
      exact (playR_okL _).1 (h d hd)
    · have : aloneL l o = [] := by
        unfold aloneL
        rw [List.filter_eq_nil_iff]
        intro d hd hm
        exact ho ⟨d, hd, by simp [mine] at hm; exact hm.1⟩
      rw [this]; trivial
end Go.Proofs.Ythmkmjoeceghiaa
