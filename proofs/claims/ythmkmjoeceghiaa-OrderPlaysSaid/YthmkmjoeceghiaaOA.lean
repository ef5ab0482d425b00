/- Orders of calls, by definition; the urgent order is one, and there is one if any is. If there is an order, the urgent order is one. Holds, by definition. Rows that are turned and merged, by definition. -/
import Derived.Test.YthmkmjoeceghiaaN
namespace Go.Proofs.Ythmkmjoeceghiaa

abbrev Sp := Dd × Int × Int
def sp (l : List Sp) (i : Nat) : Sp := l.getD i ((0, 0, 0, 0), 0, 0)
theorem sp_at {l : List Sp} {i : Nat} {x : Sp} (h : l[i]? = some x) : sp l i = x := by unfold sp; rw [List.getD_eq_getElem?_getD, h]; rfl
/-- does a end ahead of b? (pending ones end last of all) -/
def soon (a b : Sp) : Bool := decide (0 ≤ a.2.2) && (decide (b.2.2 < 0) || decide (a.2.2 < b.2.2))
theorem soon_iff (a b : Sp) : soon a b = true ↔ 0 ≤ a.2.2 ∧ (b.2.2 < 0 ∨ a.2.2 < b.2.2) := by simp [soon]
theorem soon_no (a b : Sp) : soon a b = false ↔ ¬ (0 ≤ a.2.2 ∧ (b.2.2 < 0 ∨ a.2.2 < b.2.2)) := by rw [← soon_iff]; simp
def before (l : List Sp) (i j : Nat) : Prop := soon (sp l i) (sp l j) = true ∨ (soon (sp l j) (sp l i) = false ∧ i < j)
theorem before_iff (l : List Sp) (i j : Nat) : before l i j ↔ (0 ≤ (sp l i).2.2 ∧ ((sp l j).2.2 < 0 ∨ (sp l i).2.2 < (sp l j).2.2)) ∨ (¬ (0 ≤ (sp l j).2.2 ∧ ((sp l i).2.2 < 0 ∨ (sp l j).2.2 < (sp l i).2.2)) ∧ i < j) := by
  unfold before; rw [soon_iff, soon_no]
theorem before_irr {l : List Sp} {i : Nat} : ¬ before l i i := by rw [before_iff]; omega
theorem before_trans {l : List Sp} {i j k : Nat} (h1 : before l i j) (h2 : before l j k) : before l i k := by rw [before_iff] at *; omega
theorem before_tot {l : List Sp} {i j : Nat} (h : i ≠ j) : before l i j ∨ before l j i := by rw [before_iff, before_iff]; omega
/-- of the first n calls that p holds of the one that ends first -/
def least (l : List Sp) (p : Nat → Bool) : Nat → Option Nat
  | 0 => none
  | i + 1 => match least l p i with
    | none => if p i = true then some i else none
    | some k => if p i = true ∧ soon (sp l i) (sp l k) = true then some i else some k
theorem least_spec (l : List Sp) (p : Nat → Bool) : ∀ n, match least l p n with
    | none => ∀ j, j < n → p j = false
    | some k => k < n ∧ p k = true ∧ ∀ j, j < n → p j = true → j = k ∨ before l k j
  | 0 => fun j h => by omega
  | i + 1 => by
    have ih := least_spec l p i
    unfold least
    cases h : least l p i with
    | none =>
      rw [h] at ih
      dsimp only at ih ⊢
      by_cases hp : p i = true
      · rw [if_pos hp]
        refine ⟨by omega, hp, fun j hj hpj => ?_⟩
        by_cases e : j = i
        · exact .inl e
        · rw [ih j (by omega)] at hpj; cases hpj
      · rw [if_neg hp]
        intro j hj
        by_cases e : j = i
        · subst e; simpa using hp
        · exact ih j (by omega)
    | some k =>
      rw [h] at ih
      dsimp only at ih ⊢
      obtain ⟨h1, h2, h3⟩ := ih
      by_cases hp : p i = true ∧ soon (sp l i) (sp l k) = true
      · rw [if_pos hp]
        refine ⟨by omega, hp.1, fun j hj hpj => ?_⟩
        by_cases e : j = i
        · exact .inl e
        · have hik : before l i k := .inl hp.2
          rcases h3 j (by omega) hpj with rfl | h4
          · exact .inr hik
          · exact .inr (before_trans hik h4)
      · rw [if_neg hp]
        refine ⟨by omega, h2, fun j hj hpj => ?_⟩
        by_cases e : j = i
        · subst e
          refine .inr (.inr ⟨?_, by omega⟩)
          cases hs : soon (sp l j) (sp l k) with
          | false => rfl
          | true => exact absurd ⟨hpj, hs⟩ hp
        · exact h3 j (by omega) hpj
theorem least_none {l : List Sp} {p : Nat → Bool} {n : Nat} : least l p n = none ↔ ∀ j, j < n → p j = false := by
  have h := least_spec l p n
  constructor
  · intro e; rw [e] at h; exact h
  · intro hn
    cases e : least l p n with
    | none => rfl
    | some k =>
      rw [e] at h
      dsimp only at h
      have := hn k h.1
      rw [h.2.1] at this; cases this
theorem least_some {l : List Sp} {p : Nat → Bool} {n k : Nat} : least l p n = some k ↔ k < n ∧ p k = true ∧ ∀ j, j < n → p j = true → j = k ∨ before l k j := by
  have h := least_spec l p n
  constructor
  · intro e; rw [e] at h; exact h
  · rintro ⟨h1, h2, h3⟩
    cases e : least l p n with
    | none => rw [e] at h; rw [h k h1] at h2; cases h2
    | some j =>
      rw [e] at h
      dsimp only at h
      rcases h3 j h.1 h.2.1 with rfl | h4
      · rfl
      · rcases h.2.2 k h1 h2 with rfl | h5
        · rfl
        · exact absurd (before_trans h4 h5) before_irr
/-- the first one in the order of the ends -/
theorem least_find {l : List Sp} {σ : List Nat} {n : Nat} (hσ : σ.Pairwise (before l)) (hm : ∀ i, i ∈ σ ↔ i < n) (p : Nat → Bool) : least l p n = σ.find? p := by
  cases e : σ.find? p with
  | none =>
    rw [least_none]
    intro j hj
    have := List.find?_eq_none.1 e j ((hm j).2 hj)
    simpa using this
  | some k =>
    obtain ⟨hp, as1, bs1, rfl, has⟩ := List.find?_eq_some_iff_append.1 e
    rw [least_some]
    refine ⟨(hm k).1 (by simp), hp, fun j hj hpj => ?_⟩
    have hj' := (hm j).2 hj
    rw [List.mem_append, List.mem_cons] at hj'
    rcases hj' with h | h | h
    · have := has j h; simp [hpj] at this
    · exact .inl h
    · exact .inr (List.rel_of_pairwise_cons (List.pairwise_append.1 hσ).2.1 h)

/-! ### the urgent order -/
def urgP (l : List Sp) (out : List Nat) (i : Nat) : Bool := decide (i ∉ out) && decide (0 ≤ (sp l i).2.2)
def urg (l : List Sp) (out : List Nat) : Option Nat := least l (urgP l out) l.length
def blocked (S : List Ob) (x : Sp) : Bool := decide (x.1.1 ≠ 2) && decide (decide (x.1.2 ∈ S) ≠ decide (x.1.1 = 3))
def hlpP (l : List Sp) (out : List Nat) (m : Nat) (kind : Int) (i : Nat) : Bool :=
  decide (i ∉ out) && decide ((sp l i).1.2 = (sp l m).1.2) && decide ((sp l i).1.1 = kind) && decide ((sp l i).2.1 ≤ (sp l m).2.2)
def hlpK (S : List Ob) (x : Sp) : Int := if x.1.2 ∈ S then 3 else 1
def hlp (l : List Sp) (out : List Nat) (S : List Ob) (m : Nat) : Option Nat := least l (hlpP l out m (hlpK S (sp l m))) l.length
def badP (l : List Sp) (out : List Nat) (m : Nat) (i : Nat) : Bool :=
  decide (i ∉ out) && decide ((sp l i).1.1 = 4) && decide ((sp l i).1.2 = (sp l m).1.2) && decide (0 ≤ (sp l i).2.2) && decide ((sp l i).2.1 ≤ (sp l m).2.2)
def bad (l : List Sp) (out : List Nat) (m : Nat) : Option Nat := least l (badP l out m) l.length
/-- m, or its helper -/
def base (l : List Sp) (out : List Nat) (S : List Ob) (m : Nat) : Option Nat := if blocked S (sp l m) = true then hlp l out S m else some m
/-- the call that is done next, m being the urgent one -/
def pick (l : List Sp) (out : List Nat) (S : List Ob) (m : Nat) : Option Nat :=
  match base l out S m with
  | none => none
  | some k => if (sp l k).1.1 = 1 then some ((bad l out m).getD k) else some k
def lineF (l : List Sp) : Nat → List Nat → List Ob → Option (List Nat)
  | 0, _, _ => none
  | n + 1, out, S => match urg l out with
    | none => some out
    | some m => match pick l out S m with
      | none => none
      | some k => lineF l n (out ++ [k]) (doS S (sp l k).1)
/-- a call that may be -/
def May (x : Sp) : Prop := 1 ≤ x.1.1 ∧ x.1.1 ≤ 4 ∧ (x.1.1 = 2 → x.1.2 = (0, 0, 0)) ∧ 0 ≤ x.2.1 ∧ x.2.1 ≤ 9007199254740991 ∧ x.2.2 ≤ 9007199254740991 ∧ (x.2.2 = -1 ∨ x.2.1 ≤ x.2.2)
theorem May.fine {x : Sp} (h : May x) : Fine x.1 := ⟨h.1, h.2.1, h.2.2.1⟩
def AllMay (l : List Sp) : Prop := ∀ i, i < l.length → May (sp l i)
/-- call k may not come behind j -/
def late (l : List Sp) (k j : Nat) : Prop := 0 ≤ (sp l k).2.2 ∧ (sp l k).2.2 < (sp l j).2.1
/-- σ goes on with what has been done -/
structure Goes (l : List Sp) (out : List Nat) (S : List Ob) (σ : List Nat) : Prop where
  lt : ∀ k ∈ σ, k < l.length ∧ k ∉ out
  nodup : σ.Nodup
  plays : okL S (σ.map fun k => (sp l k).1)
  old : ∀ k ∈ σ, ∀ j ∈ out, ¬ late l k j
  row : σ.Pairwise fun a b => ¬ late l b a
  all : ∀ i, i < l.length → 0 ≤ (sp l i).2.2 → i ∈ out ∨ i ∈ σ
theorem goes_nil {l : List Sp} {out : List Nat} {S : List Ob} : Goes l out S [] ↔ ∀ i, i < l.length → 0 ≤ (sp l i).2.2 → i ∈ out :=
  ⟨fun h i hi ht => by simpa using h.all i hi ht, fun h => ⟨by simp, by simp, trivial, by simp, by simp, fun i hi ht => .inl (h i hi ht)⟩⟩
theorem goes_cons {l : List Sp} {out : List Nat} {S : List Ob} {k : Nat} {σ : List Nat} : Goes l out S (k :: σ) ↔ (k < l.length ∧ k ∉ out) ∧ doE S (sp l k).1 = 0 ∧ (∀ j ∈ out, ¬ late l k j) ∧ Goes l (out ++ [k]) (doS S (sp l k).1) σ := by
  constructor
  · intro h
    have hn := List.nodup_cons.1 h.nodup
    have hr := List.pairwise_cons.1 h.row
    refine ⟨h.lt k (by simp), h.plays.1, h.old k (by simp), ⟨fun j hj => ⟨(h.lt j (by simp [hj])).1, ?_⟩, hn.2, h.plays.2, fun j hj i hi => ?_, hr.2, fun i hi ht => ?_⟩⟩
    · intro hm
      rcases List.mem_append.1 hm with h1 | h1
      · exact (h.lt j (by simp [hj])).2 h1
      · obtain rfl : j = k := by simpa using h1
        exact hn.1 hj
    · rcases List.mem_append.1 hi with h1 | h1
      · exact h.old j (by simp [hj]) i h1
      · obtain rfl : i = k := by simpa using h1
        exact hr.1 j hj
    · rcases h.all i hi ht with h1 | h1
      · exact .inl (by simp [h1])
      · rcases List.mem_cons.1 h1 with rfl | h1
        · exact .inl (by simp)
        · exact .inr h1
  · rintro ⟨h1, h2, h3, h⟩
    refine ⟨fun j hj => ?_, List.nodup_cons.2 ⟨fun hk => (h.lt k hk).2 (by simp), h.nodup⟩, ⟨h2, h.plays⟩, fun j hj i hi => ?_, List.pairwise_cons.2 ⟨fun j hj => h.old j hj k (by simp), h.row⟩, fun i hi ht => ?_⟩
    · rcases List.mem_cons.1 hj with rfl | hj
      · exact h1
      · exact ⟨(h.lt j hj).1, fun hm => (h.lt j hj).2 (by simp [hm])⟩
    · rcases List.mem_cons.1 hj with rfl | hj
      · exact h3 i hi
      · exact h.old j hj i (by simp [hi])
    · rcases h.all i hi ht with h4 | h4
      · rcases List.mem_append.1 h4 with h5 | h5
        · exact .inl h5
        · obtain rfl : i = k := by simpa using h5
          exact .inr (by simp)
      · exact .inr (by simp [h4])
theorem urg_some {l : List Sp} {out : List Nat} {m : Nat} (h : urg l out = some m) : m < l.length ∧ m ∉ out ∧ 0 ≤ (sp l m).2.2 ∧ ∀ j, j < l.length → j ∉ out → 0 ≤ (sp l j).2.2 → (sp l m).2.2 ≤ (sp l j).2.2 := by
  obtain ⟨h1, h2, h3⟩ := least_some.1 h
  simp only [urgP, Bool.and_eq_true, decide_eq_true_eq] at h2 h3
  refine ⟨h1, h2.1, h2.2, fun j hj hjo ht => ?_⟩
  rcases h3 j hj ⟨hjo, ht⟩ with rfl | h4
  · exact Int.le_refl _
  · rw [before_iff] at h4; omega
theorem urg_none {l : List Sp} {out : List Nat} (h : urg l out = none) : ∀ j, j < l.length → 0 ≤ (sp l j).2.2 → j ∈ out := fun j hj ht => by
  have := least_none.1 h j hj
  simp only [urgP, Bool.and_eq_false_iff, decide_eq_false_iff_not] at this
  rcases this with h1 | h1
  · exact Classical.not_not.1 h1
  · exact absurd ht h1
/-- what holds of what is picked -/
theorem pick_some {l : List Sp} {out : List Nat} {S : List Ob} {m k : Nat} (hv : AllMay l) (hm : m < l.length) (hmo : m ∉ out) (h : pick l out S m = some k) : k < l.length ∧ k ∉ out ∧ (sp l k).2.1 ≤ max (sp l m).2.1 (sp l m).2.2 ∧ doE S (sp l k).1 = 0 := by
  have hE : ∀ k, k < l.length → doE S (sp l k).1 = if (sp l k).1.1 = 2 then 0 else if decide ((sp l k).1.2 ∈ S) ≠ decide ((sp l k).1.1 = 3) then 270 else 0 := fun k hk => doE_fine (hv k hk).fine
  have hb : ∀ k, base l out S m = some k → k < l.length ∧ k ∉ out ∧ (sp l k).2.1 ≤ max (sp l m).2.1 (sp l m).2.2 ∧ doE S (sp l k).1 = 0 ∧ ((sp l k).1.1 = 1 → (sp l m).1.2 ∉ S) := by
    intro k hk
    unfold base at hk
    split at hk
    · obtain ⟨h1, h2, _⟩ := least_some.1 hk
      simp only [hlpP, Bool.and_eq_true, decide_eq_true_eq] at h2
      obtain ⟨⟨⟨h3, h4⟩, h5⟩, h6⟩ := h2
      refine ⟨h1, h3, by omega, ?_, ?_⟩
      · rw [hE k h1, h4, h5]
        unfold hlpK
        by_cases hs : (sp l m).1.2 ∈ S <;> simp [hs]
      · rw [h5]; unfold hlpK
        split
        · intro e; cases e
        · intro _; assumption
    · rename_i hbl
      obtain rfl : m = k := Option.some.inj hk
      have hbl' : (sp l m).1.1 = 2 ∨ decide ((sp l m).1.2 ∈ S) = decide ((sp l m).1.1 = 3) := by
        simp only [blocked, Bool.and_eq_true, decide_eq_true_eq, not_and, Decidable.not_not, ne_eq] at hbl
        by_cases h2 : (sp l m).1.1 = 2
        · exact .inl h2
        · exact .inr (hbl h2)
      refine ⟨hm, hmo, by omega, ?_, ?_⟩
      · rw [hE m hm]
        rcases hbl' with h2 | h2
        · rw [if_pos h2]
        · rw [if_neg (show ¬ (decide ((sp l m).1.2 ∈ S) ≠ decide ((sp l m).1.1 = 3)) from fun h => h h2)]; simp
      · intro h1
        rcases hbl' with h2 | h2
        · omega
        · rw [h1] at h2; simpa using h2
  unfold pick at h
  cases hk : base l out S m with
  | none => rw [hk] at h; cases h
  | some k0 =>
    rw [hk] at h
    dsimp only at h
    have h0 := hb k0 hk
    by_cases h1 : (sp l k0).1.1 = 1
    · rw [if_pos h1] at h
      cases hbd : bad l out m with
      | none => rw [hbd] at h; obtain rfl : k0 = k := Option.some.inj h; exact ⟨h0.1, h0.2.1, h0.2.2.1, h0.2.2.2.1⟩
      | some b =>
        rw [hbd] at h
        obtain rfl : b = k := Option.some.inj h
        obtain ⟨g1, g2, _⟩ := least_some.1 hbd
        simp only [badP, Bool.and_eq_true, decide_eq_true_eq] at g2
        obtain ⟨⟨⟨⟨g3, g4⟩, g5⟩, g6⟩, g7⟩ := g2
        refine ⟨g1, g3, by omega, ?_⟩
        rw [hE b g1, g4, g5]
        simp [h0.2.2.2.2 h1]
    · rw [if_neg h1] at h; obtain rfl : k0 = k := Option.some.inj h; exact ⟨h0.1, h0.2.1, h0.2.2.1, h0.2.2.2.1⟩
/-- what the urgent order answers is an order -/
theorem lineF_goes {l : List Sp} (hv : AllMay l) : ∀ (n : Nat) (out : List Nat) (S : List Ob) (r : List Nat), lineF l n out S = some r → (∀ j ∈ out, ∀ k, k < l.length → k ∉ out → ¬ late l k j) → ∃ σ, r = out ++ σ ∧ Goes l out S σ
  | 0, out, S, r, h, _ => by cases h
  | n + 1, out, S, r, h, hI => by
    unfold lineF at h
    cases hu : urg l out with
    | none =>
      rw [hu] at h
      obtain rfl : out = r := Option.some.inj h
      exact ⟨[], by simp, goes_nil.2 (urg_none hu)⟩
    | some m =>
      rw [hu] at h
      dsimp only at h
      cases hp : pick l out S m with
      | none => rw [hp] at h; cases h
      | some k =>
        rw [hp] at h
        dsimp only at h
        obtain ⟨u1, u2, u3, u4⟩ := urg_some hu
        obtain ⟨p1, p2, p3, p4⟩ := pick_some hv u1 u2 hp
        have hmm := (hv m u1).2.2.2.2.2.2
        obtain ⟨σ, rfl, hg⟩ := lineF_goes hv n _ _ r h (fun j hj i hi hio => by
          rcases List.mem_append.1 hj with h1 | h1
          · exact hI j h1 i hi (fun hm => hio (by simp [hm]))
          · obtain rfl : j = k := by simpa using h1
            rintro ⟨t1, t2⟩
            have := u4 i hi (fun hm => hio (by simp [hm])) t1
            omega)
        exact ⟨k :: σ, by simp, goes_cons.2 ⟨⟨p1, p2⟩, p4, fun j hj => hI j hj k p1 p2, hg⟩⟩
end Go.Proofs.Ythmkmjoeceghiaa
namespace Go.Proofs.Ythmkmjoeceghiaa

def deeds (l : List Sp) (σ : List Nat) : List Dd := σ.map fun k => (sp l k).1
theorem okL_iff {l : List Dd} (S : List Ob) (hf : ∀ d ∈ l, Fine d) : okL S l ↔ ∀ o, okL S (aloneL l o) := okL_alone l S (fun _ => S) hf (fun _ => Iff.rfl)
theorem okL_congr {l l' : List Dd} {S : List Ob} (hf : ∀ d ∈ l, Fine d) (hf' : ∀ d ∈ l', Fine d) (h : ∀ o, aloneL l o = aloneL l' o) (hp : okL S l) : okL S l' := by
  rw [okL_iff S hf'] ; rw [okL_iff S hf] at hp
  intro o; rw [← h o]; exact hp o
theorem alone_app (a b : List Dd) (o : Ob) : aloneL (a ++ b) o = aloneL a o ++ aloneL b o := List.filter_append ..
theorem alone_nil {l : List Dd} {o : Ob} (h : ∀ d ∈ l, ¬ (d.2 = o ∧ d.1 ≠ 2)) : aloneL l o = [] := by
  unfold aloneL
  rw [List.filter_eq_nil_iff]
  intro d hd hm
  exact h d hd (by simpa [mine] using hm)
/-- a deed that changes nothing may be left out -/
theorem okL_drop : ∀ (a : List Dd) (S : List Ob) (x : Dd) (b : List Dd), (x.1 = 2 ∨ x.1 = 4) → okL S (a ++ x :: b) → okL S (a ++ b)
  | [], S, x, b, hx, h => by
    have e : doS S x = S := by
      unfold doS
      split
      · rfl
      · rw [if_neg (by omega), if_neg (by omega)]
    have h2 := h.2
    rw [e] at h2; exact h2
  | d :: a, S, x, b, hx, h => ⟨h.1, okL_drop a _ x b hx h.2⟩
theorem neutral_doS {S : List Ob} {x : Dd} (hx : x.1 = 2 ∨ x.1 = 4) : doS S x = S := by
  unfold doS
  split
  · rfl
  · rw [if_neg (by omega), if_neg (by omega)]
theorem okL_filter (p : Dd → Bool) (hp : ∀ d, p d = false → d.1 = 4) : ∀ (a : List Dd) (S : List Ob), okL S a → okL S (a.filter p)
  | [], S, _ => trivial
  | d :: a, S, h => by
    rw [List.filter_cons]
    split
    · exact ⟨h.1, okL_filter p hp a _ h.2⟩
    · rename_i hd
      have := okL_filter p hp a _ h.2
      rwa [neutral_doS (.inr (hp d (by simpa using hd)))] at this
/-- the first deed of an object -/
theorem first_own : ∀ (σ : List Dd) (S : List Ob) (o : Ob), (∀ d ∈ σ, Fine d) → okL S σ → (∃ d ∈ σ, d.2 = o ∧ d.1 ≠ 2) → ∃ i, ∃ hi : i < σ.length, (∀ j, (hj : j < i) → ¬ ((σ[j]'(by omega)).2 = o ∧ (σ[j]'(by omega)).1 ≠ 2)) ∧ (σ[i]).2 = o ∧ (σ[i]).1 ≠ 2 ∧ doE S σ[i] = 0
  | [], S, o, _, _, h => by obtain ⟨d, hd, _⟩ := h; cases hd
  | d :: σ, S, o, hf, hp, h => by
    by_cases hd : d.2 = o ∧ d.1 ≠ 2
    · exact ⟨0, by simp, fun j hj => by omega, hd.1, hd.2, hp.1⟩
    · obtain ⟨x, hx, hxo⟩ := h
      have hxσ : x ∈ σ := by
        rcases List.mem_cons.1 hx with rfl | hx
        · exact absurd hxo hd
        · exact hx
      obtain ⟨i, hi, h1, h2, h3, h4⟩ := first_own σ (doS S d) o (fun y hy => hf y (by simp [hy])) hp.2 ⟨x, hxσ, hxo⟩
      refine ⟨i + 1, by simpa using hi, fun j hj => ?_, by simpa using h2, by simpa using h3, ?_⟩
      · cases j with
        | zero => simpa using hd
        | succ j => have := h1 j (by omega); simpa using this
      · have hfi := hf σ[i] (by simp)
        have hmem : σ[i].2 ∈ doS S d ↔ σ[i].2 ∈ S := by
          by_cases h2d : d.1 = 2
          · rw [doS_none h2d]
          · exact mem_doS_other (fun e => hd ⟨by rw [← e, h2], h2d⟩)
        have := doE_same hfi hmem
        simp only [List.getElem_cons_succ]
        rw [← this]; exact h4
/-- of a row of calls: the first one of an object -/
theorem first_call {l : List Sp} (hv : AllMay l) {S : List Ob} {σ : List Nat} (hlt : ∀ k ∈ σ, k < l.length) (hp : okL S (σ.map fun k => (sp l k).1)) {m : Nat} (hm : m ∈ σ) (h2 : (sp l m).1.1 ≠ 2) :
    ∃ A y B, σ = A ++ y :: B ∧ (∀ a ∈ A, ¬ ((sp l a).1.2 = (sp l m).1.2 ∧ (sp l a).1.1 ≠ 2)) ∧ (sp l y).1.2 = (sp l m).1.2 ∧ (sp l y).1.1 ≠ 2 ∧ doE S (sp l y).1 = 0 ∧ (y = m ∨ m ∈ B) := by
  obtain ⟨i, hi, h1, h3, h4, h5⟩ := first_own (σ.map fun k => (sp l k).1) S (sp l m).1.2 (fun d hd => by
    obtain ⟨k, hk, rfl⟩ := List.mem_map.1 hd
    exact (hv k (hlt k hk)).fine) hp ⟨(sp l m).1, List.mem_map.2 ⟨m, hm, rfl⟩, rfl, h2⟩
  have hi' : i < σ.length := by simpa using hi
  simp only [List.getElem_map] at h1 h3 h4 h5
  have hA : ∀ a ∈ σ.take i, ¬ ((sp l a).1.2 = (sp l m).1.2 ∧ (sp l a).1.1 ≠ 2) := fun a ha => by
    obtain ⟨j, hj, rfl⟩ := List.getElem_of_mem ha
    have hji : j < i := by simp at hj; omega
    have := h1 j hji
    simpa using this
  have hσ : σ = σ.take i ++ σ[i] :: σ.drop (i + 1) := by
    conv => lhs; rw [← List.take_append_drop i σ, List.drop_eq_getElem_cons hi']
  refine ⟨σ.take i, σ[i], σ.drop (i + 1), hσ, hA, h3, h4, h5, ?_⟩
  rw [hσ] at hm
  rcases List.mem_append.1 hm with h | h
  · exact absurd ⟨rfl, h2⟩ (hA m h)
  · rcases List.mem_cons.1 h with h | h
    · exact .inl h.symm
    · exact .inr h

section
variable {l : List Sp} {out : List Nat} {S : List Ob} {m : Nat}
/-- none of the calls that are left may hinder one that began ahead of m's end -/
theorem no_late (hu : urg l out = some m) {x : Nat} (hx : (sp l x).2.1 ≤ (sp l m).2.2) {z : Nat} (hz : z < l.length) (hzo : z ∉ out) : ¬ late l z x := by
  obtain ⟨_, _, _, u4⟩ := urg_some hu
  rintro ⟨t1, t2⟩
  have := u4 z hz hzo t1
  omega
theorem Goes.sub {σ τ : List Nat} (h : Goes l out S σ) (hs : τ.Sublist σ) (hp : okL S (τ.map fun k => (sp l k).1)) (ha : ∀ i ∈ σ, 0 ≤ (sp l i).2.2 → i ∈ τ) : Goes l out S τ :=
  ⟨fun k hk => h.lt k (hs.subset hk), h.nodup.sublist hs, hp, fun k hk => h.old k (hs.subset hk), h.row.sublist hs, fun i hi ht => (h.all i hi ht).elim Or.inl (fun hm => Or.inr (ha i hm ht))⟩
/-- x to the front of calls that go on without it -/
theorem goes_front (hu : urg l out = some m) {x : Nat} {τ : List Nat} (hx : x < l.length) (hxo : x ∉ out) (hxf : (sp l x).2.1 ≤ (sp l m).2.2) (hold : ∀ j ∈ out, ¬ late l x j) (hxτ : x ∉ τ)
    (lt : ∀ k ∈ τ, k < l.length ∧ k ∉ out) (nd : τ.Nodup) (old : ∀ k ∈ τ, ∀ j ∈ out, ¬ late l k j) (row : τ.Pairwise fun a b => ¬ late l b a) (all : ∀ i, i < l.length → 0 ≤ (sp l i).2.2 → i ∈ out ∨ i = x ∨ i ∈ τ)
    (hp : okL S ((x :: τ).map fun k => (sp l k).1)) : Goes l out S (x :: τ) :=
  ⟨fun k hk => by
    rcases List.mem_cons.1 hk with rfl | hk
    · exact ⟨hx, hxo⟩
    · exact lt k hk, List.nodup_cons.2 ⟨hxτ, nd⟩, hp, fun k hk => by
    rcases List.mem_cons.1 hk with rfl | hk
    · exact hold
    · exact old k hk, List.pairwise_cons.2 ⟨fun z hz => no_late hu hxf (lt z hz).1 (lt z hz).2, row⟩, fun i hi ht => by
    rcases all i hi ht with h | rfl | h
    · exact .inl h
    · exact .inr (by simp)
    · exact .inr (by simp [h])⟩
/-- a deed that changes nothing comes first -/
theorem goes_neutral (hu : urg l out = some m) {σ : List Nat} (h : Goes l out S σ) {x : Nat} (hxσ : x ∈ σ) (hxf : (sp l x).2.1 ≤ (sp l m).2.2) (hk : (sp l x).1.1 = 2 ∨ (sp l x).1.1 = 4) (he : doE S (sp l x).1 = 0) : ∃ τ, Goes l out S (x :: τ) := by
  obtain ⟨A, B, rfl⟩ := List.append_of_mem hxσ
  have hs : (A ++ B).Sublist (A ++ x :: B) := List.Sublist.append_left (List.sublist_cons_self x B) A
  have hn := h.nodup
  have hxAB : x ∉ A ++ B := fun hm => by
    rw [List.nodup_append, List.nodup_cons] at hn
    rcases List.mem_append.1 hm with h1 | h1
    · exact hn.2.2 x h1 x (by simp) rfl
    · exact hn.2.1.1 h1
  refine ⟨A ++ B, goes_front hu (h.lt x hxσ).1 (h.lt x hxσ).2 hxf (h.old x hxσ) hxAB (fun k hk => h.lt k (hs.subset hk)) (hn.sublist hs) (fun k hk => h.old k (hs.subset hk)) (h.row.sublist hs) (fun i hi ht => ?_) ?_⟩
  · rcases h.all i hi ht with h1 | h1
    · exact .inl h1
    · rcases List.mem_append.1 h1 with h1 | h1
      · exact .inr (.inr (by simp [h1]))
      · rcases List.mem_cons.1 h1 with h1 | h1
        · exact .inr (.inl h1)
        · exact .inr (.inr (by simp [h1]))
  · have hp := h.plays
    rw [List.map_append, List.map_cons] at hp
    rw [List.map_cons, List.map_append]
    exact ⟨he, by rw [neutral_doS hk]; exact okL_drop _ _ _ _ hk hp⟩
/-- y is the first call of its object that is done, and x does the same and need not come behind it: x may come first -/
theorem goes_swap (hv : AllMay l) (hu : urg l out = some m) {A B : List Nat} {y : Nat} (h : Goes l out S (A ++ y :: B)) {x : Nat} (hx : x < l.length) (hxo : x ∉ out) (hxf : (sp l x).2.1 ≤ (sp l m).2.2) (hold : ∀ j ∈ out, ¬ late l x j)
    (hA : ∀ a ∈ A, ¬ ((sp l a).1.2 = (sp l x).1.2 ∧ (sp l a).1.1 ≠ 2)) (hd : (sp l x).1 = (sp l y).1) (h2 : (sp l x).1.1 ≠ 2) (ht : 0 ≤ (sp l y).2.2 → 0 ≤ (sp l x).2.2 ∧ (sp l x).2.2 ≤ (sp l y).2.2) : ∃ τ, Goes l out S (x :: τ) := by
  have hfine : ∀ (τ : List Nat), (∀ k ∈ τ, k < l.length) → ∀ d ∈ τ.map (fun k => (sp l k).1), Fine d := fun τ hτ d hd => by
    obtain ⟨k, hk, rfl⟩ := List.mem_map.1 hd
    exact (hv k (hτ k hk)).fine
  have hmap : ∀ τ : List Nat, (∀ k ∈ τ, k < l.length) → (∀ o, aloneL ((A ++ y :: B).map fun k => (sp l k).1) o = aloneL ((x :: τ).map fun k => (sp l k).1) o) → okL S ((x :: τ).map fun k => (sp l k).1) := fun τ hτ he =>
    okL_congr (hfine _ fun k hk => (h.lt k hk).1) (hfine _ fun k hk => by
      rcases List.mem_cons.1 hk with rfl | hk
      · exact hx
      · exact hτ k hk) he h.plays
  -- past A
  have past : ∀ B' : List Nat, ∀ o, aloneL ((x :: (A ++ B')).map fun k => (sp l k).1) o = aloneL (A.map fun k => (sp l k).1) o ++ aloneL ((sp l x).1 :: B'.map fun k => (sp l k).1) o := fun B' o => by
    rw [List.map_cons, List.map_append]
    by_cases ho : (sp l x).1.2 = o
    · have e0 : aloneL (A.map fun k => (sp l k).1) o = [] := alone_nil (fun d hd => by
        obtain ⟨a, ha, rfl⟩ := List.mem_map.1 hd
        rw [← ho]; exact hA a ha)
      have e1 : mine o (sp l x).1 = true := by simp [mine, ho, h2]
      rw [e0, List.nil_append]
      unfold aloneL at *
      rw [List.filter_cons_of_pos e1, List.filter_cons_of_pos e1, List.filter_append, e0, List.nil_append]
    · have e1 : ¬ mine o (sp l x).1 = true := by simp [mine, ho]
      unfold aloneL
      rw [List.filter_cons_of_neg e1, List.filter_cons_of_neg e1, List.filter_append]
  have hn := h.nodup
  have hr := h.row
  by_cases hxy : x = y
  · subst hxy
    have hs : (A ++ B).Sublist (A ++ x :: B) := List.Sublist.append_left (List.sublist_cons_self x B) A
    have hxAB : x ∉ A ++ B := fun hm => by
      rw [List.nodup_append, List.nodup_cons] at hn
      rcases List.mem_append.1 hm with h1 | h1
      · exact hn.2.2 x h1 x (by simp) rfl
      · exact hn.2.1.1 h1
    refine ⟨A ++ B, goes_front hu hx hxo hxf hold hxAB (fun k hk => h.lt k (hs.subset hk)) (hn.sublist hs) (fun k hk => h.old k (hs.subset hk)) (hr.sublist hs) (fun i hi ht => ?_) (hmap _ (fun k hk => (h.lt k (hs.subset hk)).1) fun o => ?_)⟩
    · rcases h.all i hi ht with h1 | h1
      · exact .inl h1
      · rcases List.mem_append.1 h1 with h1 | h1
        · exact .inr (.inr (by simp [h1]))
        · rcases List.mem_cons.1 h1 with h1 | h1
          · exact .inr (.inl h1)
          · exact .inr (.inr (by simp [h1]))
    · rw [past, List.map_append, List.map_cons, alone_app]
  · have hxA : x ∉ A := fun hm => hA x hm ⟨rfl, h2⟩
    by_cases hxB : x ∈ B
    · obtain ⟨B1, B2, rfl⟩ := List.append_of_mem hxB
      have hperm : (A ++ y :: (B1 ++ x :: B2)).Perm (x :: (A ++ (B1 ++ y :: B2))) := by
        have e1 : (y :: (B1 ++ x :: B2)).Perm (x :: (B1 ++ y :: B2)) := by
          refine (List.Perm.cons y List.perm_middle).trans ((List.Perm.swap x y _).trans (List.Perm.cons x ?_))
          exact List.perm_middle.symm
        exact (List.Perm.append_left A e1).trans List.perm_middle
      have hsub : ∀ k ∈ A ++ (B1 ++ y :: B2), k ∈ A ++ y :: (B1 ++ x :: B2) := fun k hk => hperm.symm.subset (by simp only [List.mem_cons]; exact .inr hk)
      have hn2 := List.nodup_cons.1 (hperm.nodup_iff.1 hn)
      have hyx : ∀ z ∈ B1, ¬ late l y z := fun z hz => by
        rintro ⟨t1, t2⟩
        obtain ⟨t3, t4⟩ := ht t1
        have h1 := (List.pairwise_append.1 hr).2.1
        have h3 := (List.pairwise_append.1 (List.pairwise_cons.1 h1).2).2.2 z hz x (by simp)
        exact h3 ⟨t3, by omega⟩
      refine ⟨A ++ (B1 ++ y :: B2), goes_front hu hx hxo hxf hold hn2.1 (fun k hk => h.lt k (hsub k hk)) hn2.2 (fun k hk => h.old k (hsub k hk)) ?_ (fun i hi ht => ?_) (hmap _ (fun k hk => (h.lt k (hsub k hk)).1) fun o => ?_)⟩
      · obtain ⟨r1, r2, r3⟩ := List.pairwise_append.1 hr
        obtain ⟨r4, r5⟩ := List.pairwise_cons.1 r2
        obtain ⟨r6, r7, r8⟩ := List.pairwise_append.1 r5
        obtain ⟨r9, r10⟩ := List.pairwise_cons.1 r7
        refine List.pairwise_append.2 ⟨r1, List.pairwise_append.2 ⟨r6, List.pairwise_cons.2 ⟨fun z hz => r4 z (by simp [hz]), r10⟩, fun a ha b hb => ?_⟩, fun a ha b hb => r3 a ha b ?_⟩
        · rcases List.mem_cons.1 hb with rfl | hb
          · exact hyx a ha
          · exact r8 a ha b (by simp [hb])
        · rcases List.mem_append.1 hb with hb | hb
          · simp [hb]
          · rcases List.mem_cons.1 hb with rfl | hb
            · simp
            · simp [hb]
      · rcases h.all i hi ht with h1 | h1
        · exact .inl h1
        · have := hperm.subset h1
          rcases List.mem_cons.1 this with rfl | h2
          · exact .inr (.inl rfl)
          · exact .inr (.inr h2)
      · rw [past, List.map_append, alone_app]
        congr 1
        rw [List.map_cons, List.map_append, List.map_append, List.map_cons, List.map_cons, hd]
    · have htx : ¬ 0 ≤ (sp l x).2.2 := fun h0 => by
        rcases h.all x hx h0 with h1 | h1
        · exact hxo h1
        · rcases List.mem_append.1 h1 with h1 | h1
          · exact hxA h1
          · rcases List.mem_cons.1 h1 with h1 | h1
            · exact hxy h1
            · exact hxB h1
      have hty : ¬ 0 ≤ (sp l y).2.2 := fun h0 => htx (ht h0).1
      have hs : (A ++ B).Sublist (A ++ y :: B) := List.Sublist.append_left (List.sublist_cons_self y B) A
      refine ⟨A ++ B, goes_front hu hx hxo hxf hold (fun hm => ?_) (fun k hk => h.lt k (hs.subset hk)) (hn.sublist hs) (fun k hk => h.old k (hs.subset hk)) (hr.sublist hs) (fun i hi hti => ?_) (hmap _ (fun k hk => (h.lt k (hs.subset hk)).1) fun o => ?_)⟩
      · rcases List.mem_append.1 hm with h1 | h1
        · exact hxA h1
        · exact hxB h1
      · rcases h.all i hi hti with h1 | h1
        · exact .inl h1
        · rcases List.mem_append.1 h1 with h1 | h1
          · exact .inr (.inr (by simp [h1]))
          · rcases List.mem_cons.1 h1 with rfl | h1
            · exact absurd hti hty
            · exact .inr (.inr (by simp [h1]))
      · rw [past, List.map_append, List.map_cons, alone_app, hd]
end
theorem doE_zero {S : List Ob} {d : Dd} (hf : Fine d) : doE S d = 0 ↔ d.1 = 2 ∨ (d.2 ∈ S ↔ d.1 = 3) := by
  rw [doE_fine hf]
  by_cases h2 : d.1 = 2
  · simp [h2]
  · rw [if_neg h2]
    by_cases h : d.2 ∈ S <;> by_cases h3 : d.1 = 3 <;> simp [h, h3, h2]
theorem split_row {l : List Sp} {A B : List Nat} {y m : Nat} (h : (A ++ y :: B).Pairwise fun a b => ¬ late l b a) (hm : m ∈ B) (ht : 0 ≤ (sp l m).2.2) : (sp l y).2.1 ≤ (sp l m).2.2 := by
  have := (List.pairwise_cons.1 (List.pairwise_append.1 h).2.1).1 m hm
  unfold late at this
  omega
/-- whatever goes on, goes on by what is picked -/
theorem goes_pick {l : List Sp} (hv : AllMay l) {out : List Nat} {S : List Ob} {σ : List Nat} {m : Nat} (hI : ∀ j ∈ out, ∀ k, k < l.length → k ∉ out → ¬ late l k j) (h : Goes l out S σ) (hu : urg l out = some m) : ∃ k τ, pick l out S m = some k ∧ Goes l out S (k :: τ) := by
  obtain ⟨u1, u2, u3, u4⟩ := urg_some hu
  have hmay := hv m u1
  have hft : (sp l m).2.1 ≤ (sp l m).2.2 := by have := hmay.2.2.2.2.2.2; omega
  have hσ : m ∈ σ := (h.all m u1 u3).resolve_left u2
  -- what begins with y
  have hE : ∀ k, k < l.length → (doE S (sp l k).1 = 0 ↔ (sp l k).1.1 = 2 ∨ ((sp l k).1.2 ∈ S ↔ (sp l k).1.1 = 3)) := fun k hk => doE_zero (hv k hk).fine
  -- without the pending ones of kind 4
  have hdrop : ∀ p : Nat → Bool, (∀ k, p k = false → (sp l k).1.1 = 4) → okL S ((σ.filter p).map fun k => (sp l k).1) := fun p hp => by
    have aux : ∀ (σ : List Nat) (S : List Ob), okL S (σ.map fun k => (sp l k).1) → okL S ((σ.filter p).map fun k => (sp l k).1) := by
      intro σ
      induction σ with
      | nil => intro S _; trivial
      | cons k σ ih =>
        intro S hS
        rw [List.filter_cons]
        split
        · exact ⟨hS.1, ih _ hS.2⟩
        · rename_i hk
          have := ih _ hS.2
          rwa [neutral_doS (.inr (hp k (by simpa using hk)))] at this
    exact aux σ S h.plays
  have hG4 : Goes l out S (σ.filter fun k => decide (0 ≤ (sp l k).2.2) || decide ((sp l k).1.1 ≠ 4)) := h.sub List.filter_sublist (hdrop _ fun k hk => by
    simp only [Bool.or_eq_false_iff, decide_eq_false_iff_not, Classical.not_not, ne_eq] at hk; exact hk.2) (fun i hi ht => List.mem_filter.2 ⟨hi, by simp [ht]⟩)
  -- a bad that must come first
  have hbad : ∀ b, bad l out m = some b → (sp l m).1.2 ∉ S → ∃ τ, Goes l out S (b :: τ) := fun b hb hS => by
    obtain ⟨g1, g2, _⟩ := least_some.1 hb
    simp only [badP, Bool.and_eq_true, decide_eq_true_eq] at g2
    obtain ⟨⟨⟨⟨g3, g4⟩, g5⟩, g6⟩, g7⟩ := g2
    refine goes_neutral hu h ((h.all b g1 g6).resolve_left g3) g7 (.inr g4) ((hE b g1).2 (.inr ?_))
    rw [g5, g4]; simp [hS]
  have hnobad : bad l out m = none → ∀ k, k < l.length → k ∉ out → (sp l k).1.2 = (sp l m).1.2 → 0 ≤ (sp l k).2.2 → (sp l k).2.1 ≤ (sp l m).2.2 → (sp l k).1.1 ≠ 4 := fun hb k hk ho h1 h2 h3 h4 => by
    have := least_none.1 hb k hk
    simp [badP, ho, h1, h2, h3, h4] at this
  by_cases h2 : (sp l m).1.1 = 2
  · have hb : base l out S m = some m := by unfold base blocked; simp [h2]
    have hp : pick l out S m = some m := by unfold pick; rw [hb]; dsimp only; rw [if_neg (by omega)]
    obtain ⟨τ, hτ⟩ := goes_neutral hu h hσ hft (.inl h2) ((hE m u1).2 (.inl h2))
    exact ⟨m, τ, hp, hτ⟩
  · by_cases hblk : blocked S (sp l m) = true
    · have hS : ¬ ((sp l m).1.2 ∈ S ↔ (sp l m).1.1 = 3) := by
        simp only [blocked, Bool.and_eq_true, decide_eq_true_eq, ne_eq, decide_eq_decide] at hblk; exact hblk.2
      have hb : base l out S m = hlp l out S m := by unfold base; rw [if_pos hblk]
      by_cases hin : (sp l m).1.2 ∈ S
      · -- out: one that takes it comes first
        obtain ⟨A, y, B, hAy, hA, hyo, hy2, hye, hym⟩ := first_call hv (fun k hk => (h.lt k hk).1) h.plays hσ h2
        subst hAy
        have hyl := h.lt y (by simp)
        have hy3 : (sp l y).1.1 = 3 := by
          have := ((hE y hyl.1).1 hye).resolve_left hy2
          rw [hyo] at this; exact this.1 hin
        have hyB : m ∈ B := hym.resolve_left (fun e => by subst e; exact hS ⟨fun _ => hy3, fun _ => hin⟩)
        have hyf := split_row h.row hyB u3
        have hk : hlpK S (sp l m) = 3 := by simp [hlpK, hin]
        cases hh : hlp l out S m with
        | none =>
          have := least_none.1 hh y hyl.1
          simp [hlpP, hyl.2, hyo, hk, hy3, hyf] at this
        | some k =>
          obtain ⟨k1, k2, k3⟩ := least_some.1 hh
          have hky := k3 y hyl.1 (by simp [hlpP, hyl.2, hyo, hk, hy3, hyf])
          simp only [hlpP, Bool.and_eq_true, decide_eq_true_eq, hk] at k2
          obtain ⟨⟨⟨g1, g2⟩, g3⟩, g4⟩ := k2
          have hp : pick l out S m = some k := by unfold pick; rw [hb, hh]; dsimp only; rw [if_neg (by omega)]
          obtain ⟨τ, hτ⟩ := goes_swap hv hu h k1 g1 g4 (fun j hj => hI j hj k k1 g1) (fun a ha => by rw [g2]; exact hA a ha) (Prod.ext (by rw [g3, hy3]) (by rw [g2, hyo])) (by omega) (fun ht => by
            rcases hky with rfl | h3
            · exact ⟨ht, Int.le_refl _⟩
            · rw [before_iff] at h3; omega)
          exact ⟨k, τ, hp, hτ⟩
      · -- not out: m takes it; one that gives it comes first
        have hm3 : (sp l m).1.1 = 3 := Classical.byContradiction fun h3 => hS ⟨fun h => absurd h hin, fun h => absurd h h3⟩
        have hk : hlpK S (sp l m) = 1 := by simp [hlpK, hin]
        -- there is one
        have hex : ∃ g, g < l.length ∧ g ∉ out ∧ (sp l g).1.2 = (sp l m).1.2 ∧ (sp l g).1.1 = 1 ∧ (sp l g).2.1 ≤ (sp l m).2.2 := by
          obtain ⟨A, y, B, hAy, hA, hyo, hy2, hye, hym⟩ := first_call hv (σ := σ.filter fun k => decide ((sp l k).1.1 ≠ 4)) (fun k hk => (h.lt k (List.mem_filter.1 hk).1).1) (hdrop _ fun k hk => by simpa using hk) (m := m) (List.mem_filter.2 ⟨hσ, by simp [hm3]⟩) h2
          have hyσ := List.mem_filter.1 (show y ∈ σ.filter fun k => decide ((sp l k).1.1 ≠ 4) by rw [hAy]; simp)
          have hyl := h.lt y hyσ.1
          have hy4 : (sp l y).1.1 ≠ 4 := by simpa using hyσ.2
          have hy3 : (sp l y).1.1 ≠ 3 := by
            have := ((hE y hyl.1).1 hye).resolve_left hy2
            rw [hyo] at this; exact fun h3 => hin (this.2 h3)
          have hrng := hv y hyl.1
          have hyB : m ∈ B := hym.resolve_left (fun e => by subst e; exact hy3 hm3)
          have hrow : (A ++ y :: B).Pairwise fun a b => ¬ late l b a := by rw [← hAy]; exact h.row.sublist List.filter_sublist
          exact ⟨y, hyl.1, hyl.2, hyo, by have := hrng.1; have := hrng.2.1; omega, split_row hrow hyB u3⟩
        cases hh : hlp l out S m with
        | none =>
          obtain ⟨g, q1, q2, q3, q4, q5⟩ := hex
          have := least_none.1 hh g q1
          simp [hlpP, q2, q3, hk, q4, q5] at this
        | some k =>
          obtain ⟨k1, k2, k3⟩ := least_some.1 hh
          have hk2 := k2
          simp only [hlpP, Bool.and_eq_true, decide_eq_true_eq, hk] at k2
          obtain ⟨⟨⟨g1, g2⟩, g3⟩, g4⟩ := k2
          cases hbd : bad l out m with
          | some b =>
            have hp : pick l out S m = some b := by unfold pick; rw [hb, hh]; dsimp only; rw [if_pos g3, hbd]; rfl
            obtain ⟨τ, hτ⟩ := hbad b hbd hin
            exact ⟨b, τ, hp, hτ⟩
          | none =>
            have hp : pick l out S m = some k := by unfold pick; rw [hb, hh]; dsimp only; rw [if_pos g3, hbd]; rfl
            obtain ⟨A, y, B, hAy, hA, hyo, hy2, hye, hym⟩ := first_call hv (fun k hk => (hG4.lt k hk).1) hG4.plays (m := m) (List.mem_filter.2 ⟨hσ, by simp [u3]⟩) h2
            have hyσ := List.mem_filter.1 (show y ∈ σ.filter fun k => decide (0 ≤ (sp l k).2.2) || decide ((sp l k).1.1 ≠ 4) by rw [hAy]; simp)
            rw [hAy] at hG4
            have hyl := hG4.lt y (by simp)
            have hy3 : (sp l y).1.1 ≠ 3 := by
              have := ((hE y hyl.1).1 hye).resolve_left hy2
              rw [hyo] at this; exact fun h3 => hin (this.2 h3)
            have hyB : m ∈ B := hym.resolve_left (fun e => by subst e; exact hy3 hm3)
            have hyf := split_row hG4.row hyB u3
            have hy4 : (sp l y).1.1 ≠ 4 := fun h4 => by
              have ht : 0 ≤ (sp l y).2.2 := by
                have := hyσ.2
                simp only [Bool.or_eq_true, decide_eq_true_eq] at this
                exact this.resolve_right (fun h => h h4)
              exact hnobad hbd y hyl.1 hyl.2 hyo ht hyf h4
            have hrng := hv y hyl.1
            have hy1 : (sp l y).1.1 = 1 := by have := hrng.1; have := hrng.2.1; omega
            have hky := k3 y hyl.1 (by simp [hlpP, hyl.2, hyo, hk, hy1, hyf])
            obtain ⟨τ, hτ⟩ := goes_swap hv hu hG4 k1 g1 g4 (fun j hj => hI j hj k k1 g1) (fun a ha => by rw [g2]; exact hA a ha) (Prod.ext (by rw [g3, hy1]) (by rw [g2, hyo])) (by omega) (fun ht => by
              rcases hky with rfl | h3
              · exact ⟨ht, Int.le_refl _⟩
              · rw [before_iff] at h3; omega)
            exact ⟨k, τ, hp, hτ⟩
    · have hS : (sp l m).1.2 ∈ S ↔ (sp l m).1.1 = 3 := by
        simp only [blocked, Bool.and_eq_true, decide_eq_true_eq, ne_eq, decide_eq_decide, not_and, Classical.not_not] at hblk; exact hblk h2
      have hb : base l out S m = some m := by unfold base; rw [if_neg hblk]
      by_cases h4 : (sp l m).1.1 = 4
      · have hp : pick l out S m = some m := by unfold pick; rw [hb]; dsimp only; rw [if_neg (by omega)]
        obtain ⟨τ, hτ⟩ := goes_neutral hu h hσ hft (.inr h4) ((hE m u1).2 (.inr hS))
        exact ⟨m, τ, hp, hτ⟩
      · by_cases h3 : (sp l m).1.1 = 3
        · have hp : pick l out S m = some m := by unfold pick; rw [hb]; dsimp only; rw [if_neg (by omega)]
          obtain ⟨A, y, B, hAy, hA, hyo, hy2, hye, hym⟩ := first_call hv (fun k hk => (h.lt k hk).1) h.plays hσ h2
          subst hAy
          have hyl := h.lt y (by simp)
          have hy3 : (sp l y).1.1 = 3 := by
            have := ((hE y hyl.1).1 hye).resolve_left hy2
            rw [hyo] at this; exact this.1 (hS.2 h3)
          obtain ⟨τ, hτ⟩ := goes_swap hv hu h u1 u2 hft (fun j hj => hI j hj m u1 u2) hA (Prod.ext (by rw [h3, hy3]) hyo.symm) h2 (fun ht => ⟨u3, u4 y hyl.1 hyl.2 ht⟩)
          exact ⟨m, τ, hp, hτ⟩
        · have h1 : (sp l m).1.1 = 1 := by have := hmay.1; have := hmay.2.1; omega
          have hin : (sp l m).1.2 ∉ S := fun h => h3 (hS.1 h)
          cases hbd : bad l out m with
          | some b =>
            have hp : pick l out S m = some b := by unfold pick; rw [hb]; dsimp only; rw [if_pos h1, hbd]; rfl
            obtain ⟨τ, hτ⟩ := hbad b hbd hin
            exact ⟨b, τ, hp, hτ⟩
          | none =>
            have hp : pick l out S m = some m := by unfold pick; rw [hb]; dsimp only; rw [if_pos h1, hbd]; rfl
            obtain ⟨A, y, B, hAy, hA, hyo, hy2, hye, hym⟩ := first_call hv (fun k hk => (hG4.lt k hk).1) hG4.plays (m := m) (List.mem_filter.2 ⟨hσ, by simp [u3]⟩) h2
            have hyσ := List.mem_filter.1 (show y ∈ σ.filter fun k => decide (0 ≤ (sp l k).2.2) || decide ((sp l k).1.1 ≠ 4) by rw [hAy]; simp)
            rw [hAy] at hG4
            have hyl := hG4.lt y (by simp)
            have hy3 : (sp l y).1.1 ≠ 3 := by
              have := ((hE y hyl.1).1 hye).resolve_left hy2
              rw [hyo] at this; exact fun h3 => hin (this.2 h3)
            have hy4 : (sp l y).1.1 ≠ 4 := fun h4' => by
              have hyB : m ∈ B := hym.resolve_left (fun e => by subst e; omega)
              have ht : 0 ≤ (sp l y).2.2 := by
                have := hyσ.2
                simp only [Bool.or_eq_true, decide_eq_true_eq] at this
                exact this.resolve_right (fun h => h h4')
              exact hnobad hbd y hyl.1 hyl.2 hyo ht (split_row hG4.row hyB u3) h4'
            have hrng := hv y hyl.1
            have hy1 : (sp l y).1.1 = 1 := by have := hrng.1; have := hrng.2.1; omega
            obtain ⟨τ, hτ⟩ := goes_swap hv hu hG4 u1 u2 hft (fun j hj => hI j hj m u1 u2) hA (Prod.ext (by rw [h1, hy1]) hyo.symm) h2 (fun ht => ⟨u3, u4 y hyl.1 hyl.2 ht⟩)
            exact ⟨m, τ, hp, hτ⟩
theorem nodup_len : ∀ (n : Nat) (out : List Nat), out.Nodup → (∀ j ∈ out, j < n) → out.length ≤ n
  | 0, out, _, hl => by
    cases out with
    | nil => simp
    | cons j _ => have := hl j (by simp); omega
  | n + 1, out, hn, hl => by
    by_cases h : n ∈ out
    · have h1 := nodup_len n (out.erase n) (hn.erase n) (fun j hj => by
        have := hl j (List.mem_of_mem_erase hj)
        have hne : j ≠ n := fun e => by subst e; exact absurd hj (fun hj => (hn.mem_erase_iff.1 hj).1 rfl)
        omega)
      rw [List.length_erase_of_mem h] at h1
      omega
    · have := nodup_len n out hn (fun j hj => by
        have := hl j hj
        have hne : j ≠ n := fun e => h (e ▸ hj)
        omega)
      omega
/-- if there is an order, one is answered -/
theorem lineF_full {l : List Sp} (hv : AllMay l) : ∀ (n : Nat) (out : List Nat) (S : List Ob) (σ : List Nat), Goes l out S σ → out.Nodup → (∀ j ∈ out, j < l.length) → (∀ j ∈ out, ∀ k, k < l.length → k ∉ out → ¬ late l k j) → l.length < out.length + n → ∃ r, lineF l n out S = some r
  | 0, out, S, σ, _, hn, hl, _, hlen => by have := nodup_len _ out hn hl; omega
  | n + 1, out, S, σ, h, hn, hl, hI, hlen => by
    unfold lineF
    cases hu : urg l out with
    | none => exact ⟨out, rfl⟩
    | some m =>
      obtain ⟨u1, u2, u3, u4⟩ := urg_some hu
      obtain ⟨k, τ, hp, hg⟩ := goes_pick hv hI h hu
      obtain ⟨p1, p2, p3, p4⟩ := pick_some hv u1 u2 hp
      have hmm := (hv m u1).2.2.2.2.2.2
      dsimp only
      rw [hp]
      dsimp only
      refine lineF_full hv n _ _ τ (goes_cons.1 hg).2.2.2 (List.nodup_append.2 ⟨hn, by simp, fun a ha b hb => ?_⟩) (fun j hj => ?_) (fun j hj i hi hio => ?_) (by simp; omega)
      · obtain rfl : b = k := by simpa using hb
        rintro rfl
        exact p2 ha
      · rcases List.mem_append.1 hj with h1 | h1
        · exact hl j h1
        · obtain rfl : j = k := by simpa using h1
          exact p1
      · rcases List.mem_append.1 hj with h1 | h1
        · exact hI j h1 i hi (fun hm => hio (by simp [hm]))
        · obtain rfl : j = k := by simpa using h1
          rintro ⟨t1, t2⟩
          have := u4 i hi (fun hm => hio (by simp [hm])) t1
          omega
end Go.Proofs.Ythmkmjoeceghiaa
namespace Go.Proofs.Ythmkmjoeceghiaa

def lateB (l : List Sp) (k j : Nat) : Bool := decide (0 ≤ (sp l k).2.2) && decide ((sp l k).2.2 < (sp l j).2.1)
theorem lateB_iff (l : List Sp) (k j : Nat) : lateB l k j = true ↔ late l k j := by simp [lateB, late]
/-- call k may come now -/
def nowB (l : List Sp) (out : List Nat) (S : List Ob) (k : Int) : Bool :=
  decide (0 ≤ k) && decide (k < l.length) && decide (k.toNat ∉ out) && decide (doE S (sp l k.toNat).1 = 0) && out.all fun j => !lateB l k.toNat j
def endB (l : List Sp) (out : List Nat) : Bool := (List.range l.length).all fun i => decide ((sp l i).2.2 < 0) || decide (i ∈ out)
/-- is o an order, from here on? -/
def ordFrom (l : List Sp) : List Nat → List Ob → List Int → Bool
  | out, _, [] => endB l out
  | out, S, k :: o => nowB l out S k && ordFrom l (out ++ [k.toNat]) (doS S (sp l k.toNat).1) o
theorem endB_iff (l : List Sp) (out : List Nat) : endB l out = true ↔ ∀ i, i < l.length → 0 ≤ (sp l i).2.2 → i ∈ out := by
  unfold endB
  simp only [List.all_eq_true, List.mem_range, Bool.or_eq_true, decide_eq_true_eq]
  exact ⟨fun h i hi ht => (h i hi).resolve_left (by omega), fun h i hi => by
    by_cases ht : (sp l i).2.2 < 0
    · exact .inl ht
    · exact .inr (h i hi (by omega))⟩
theorem ord_goes {l : List Sp} : ∀ (σ : List Nat) (out : List Nat) (S : List Ob), ordFrom l out S (σ.map Int.ofNat) = true ↔ Goes l out S σ
  | [], out, S => by rw [goes_nil]; exact endB_iff l out
  | k :: σ, out, S => by
    rw [goes_cons, List.map_cons]
    unfold ordFrom nowB
    simp only [Int.ofNat_eq_natCast, Bool.and_eq_true, decide_eq_true_eq, Int.toNat_natCast, List.all_eq_true, Bool.not_eq_true', ord_goes σ]
    constructor
    · rintro ⟨⟨⟨⟨⟨h1, h2⟩, h3⟩, h4⟩, h5⟩, h6⟩
      exact ⟨⟨by omega, h3⟩, h4, (fun j hj hl => by have := h5 j hj; rw [(lateB_iff l k j).2 hl] at this; cases this), h6⟩
    · rintro ⟨⟨h2, h3⟩, h4, h5, h6⟩
      exact ⟨⟨⟨⟨⟨by omega, by omega⟩, h3⟩, h4⟩, (fun j hj => by rw [Bool.eq_false_iff, ne_eq, lateB_iff]; exact h5 j hj)⟩, h6⟩
end Go.Proofs.Ythmkmjoeceghiaa
namespace Go.Proofs.Ythmkmjoeceghiaa

theorem before_up {l : List Sp} {i j : Nat} (h : i < j) : before l i j ↔ soon (sp l j) (sp l i) = false := by
  rw [before_iff, soon_no]; omega
theorem before_dn {l : List Sp} {i j : Nat} (h : i < j) : before l j i ↔ soon (sp l j) (sp l i) = true := by
  rw [before_iff, soon_iff]; omega
/-- a row, turned about m between a and b -/
def rot {α : Type} (f : Nat → α) (a m b : Nat) (p : Nat) : α := if a ≤ p ∧ p < a + (b - m) then f (p + (m - a)) else if a + (b - m) ≤ p ∧ p < b then f (p - (b - m)) else f p
/-- n elements from a on and n from b on change their places -/
def swR {α : Type} (f : Nat → α) (a b n : Nat) (p : Nat) : α := if a ≤ p ∧ p < a + n then f (p - a + b) else if b ≤ p ∧ p < b + n then f (p - b + a) else f p
def swp {α : Type} (f : Nat → α) (a b p : Nat) : α := if p = a then f b else if p = b then f a else f p
theorem swR_zero {α : Type} (f : Nat → α) (a b : Nat) : swR f a b 0 = f := by
  funext p; unfold swR; rw [if_neg (by omega), if_neg (by omega)]
theorem swR_succ {α : Type} (f : Nat → α) (a b n : Nat) (h : a + n < b) : swp (swR f a b n) (a + n) (b + n) = swR f a b (n + 1) := by
  funext p
  unfold swp swR
  repeat' split
  all_goals first | rfl | omega | (congr 1; omega)
theorem rot_gt {α : Type} (f : Nat → α) (m i j : Nat) (h : j < i) (hi : i ≤ m) : rot (swR f (m - i) m j) (m - (i - j)) m (m + j) = rot f (m - i) m (m + j) := by
  funext p
  unfold rot swR
  repeat' split
  all_goals first | rfl | omega | (congr 1; omega)
theorem rot_lt {α : Type} (f : Nat → α) (m i j : Nat) (h : i < j) (hi : i ≤ m) : rot (swR f (m - i) (m + j - i) i) (m - i) m (m + (j - i)) = rot f (m - i) m (m + j) := by
  funext p
  unfold rot swR
  repeat' split
  all_goals first | rfl | omega | (congr 1; omega)
theorem rot_eq {α : Type} (f : Nat → α) (m i : Nat) (hi : i ≤ m) : swR f (m - i) m i = rot f (m - i) m (m + i) := by
  funext p
  unfold rot swR
  repeat' split
  all_goals first | rfl | omega | (congr 1; omega)
/-- the first one goes up, place by place -/
theorem rot_first {α : Type} (f : Nat → α) (a k p : Nat) (h : a ≤ k) : rot f a (a + 1) (k + 1) p = if a ≤ p ∧ p < k then f (p + 1) else if p = k then f a else f p := by
  have e : k + 1 - (a + 1) = k - a := by omega
  unfold rot
  rw [e, show a + (k - a) = k by omega, show a + 1 - a = 1 by omega]
  by_cases h1 : a ≤ p ∧ p < k
  · rw [if_pos h1, if_pos h1]
  · rw [if_neg h1, if_neg h1]
    by_cases h2 : p = k
    · subst h2; rw [if_pos (by omega), if_pos rfl]; congr 1; omega
    · rw [if_neg (by omega), if_neg h2]
theorem rot_up {α : Type} (f : Nat → α) (a k : Nat) (h : a ≤ k) : swp (rot f a (a + 1) (k + 1)) k (k + 1) = rot f a (a + 1) (k + 2) := by
  funext p
  rw [show k + 2 = (k + 1) + 1 from rfl, rot_first f a (k + 1) p (by omega)]
  unfold swp
  rw [rot_first f a k _ h, rot_first f a k _ h, rot_first f a k _ h]
  by_cases h1 : p = k
  · subst h1; rw [if_pos rfl, if_neg (by omega), if_neg (by omega), if_pos (by omega)]
  · rw [if_neg h1]
    by_cases h2 : p = k + 1
    · subst h2; rw [if_pos rfl, if_neg (by omega), if_pos rfl, if_neg (by omega), if_pos rfl]
    · rw [if_neg h2]
      by_cases h3 : a ≤ p ∧ p < k
      · rw [if_pos h3, if_pos (by omega)]
      · rw [if_neg h3, if_neg h1, if_neg (by omega), if_neg h2]
theorem rot_one {α : Type} (f : Nat → α) (a : Nat) : rot f a (a + 1) (a + 1) = f := by
  funext p
  rw [rot_first f a a p (Nat.le_refl _), if_neg (by omega)]
  split
  · rename_i h; rw [h]
  · rfl
/-- the last one goes down -/
theorem rot_last {α : Type} (f : Nat → α) (m k p : Nat) (h : k ≤ m) : rot f k m (m + 1) p = if p = k then f m else if k < p ∧ p ≤ m then f (p - 1) else f p := by
  unfold rot
  rw [show m + 1 - m = 1 by omega]
  by_cases h1 : p = k
  · subst h1; rw [if_pos (by omega), if_pos rfl]; congr 1; omega
  · rw [if_neg (by omega), if_neg h1]
    by_cases h2 : k < p ∧ p ≤ m
    · rw [if_pos (by omega), if_pos h2]
    · rw [if_neg (by omega), if_neg h2]
theorem rot_dn {α : Type} (f : Nat → α) (m k : Nat) (h : k < m) : swp (rot f (k + 1) m (m + 1)) (k + 1) k = rot f k m (m + 1) := by
  funext p
  rw [rot_last f m k p (by omega)]
  unfold swp
  rw [rot_last f m (k + 1) _ (by omega), rot_last f m (k + 1) _ (by omega), rot_last f m (k + 1) _ (by omega)]
  by_cases h1 : p = k + 1
  · subst h1; rw [if_pos rfl, if_neg (by omega), if_neg (by omega), if_neg (by omega), if_pos (by omega)]; congr 1
  · rw [if_neg h1]
    by_cases h2 : p = k
    · subst h2; rw [if_pos rfl, if_pos rfl, if_pos rfl]
    · rw [if_neg h2, if_neg h1, if_neg h2]
      by_cases h3 : k + 1 < p ∧ p ≤ m
      · rw [if_pos h3, if_pos (by omega)]
      · rw [if_neg h3, if_neg (by omega)]
theorem rot_none {α : Type} (f : Nat → α) (m : Nat) : rot f m m (m + 1) = f := by
  funext p
  rw [rot_last f m m p (Nat.le_refl _)]
  split
  · rename_i h; rw [h]
  · rw [if_neg (by omega)]
/-- f' has what f has between a and b, in whatever order -/
structure Rr (f f' : Nat → Nat) (a b : Nat) : Prop where
  out : ∀ p, (p < a ∨ b ≤ p) → f' p = f p
  fro : ∀ p, a ≤ p → p < b → ∃ q, a ≤ q ∧ q < b ∧ f' p = f q
  to : ∀ q, a ≤ q → q < b → ∃ p, a ≤ p ∧ p < b ∧ f' p = f q
theorem Rr.refl (f : Nat → Nat) (a b : Nat) : Rr f f a b := ⟨fun _ _ => rfl, fun p h1 h2 => ⟨p, h1, h2, rfl⟩, fun p h1 h2 => ⟨p, h1, h2, rfl⟩⟩
theorem Rr.trans {f g h : Nat → Nat} {a b : Nat} (x : Rr f g a b) (y : Rr g h a b) : Rr f h a b :=
  ⟨fun p hp => (y.out p hp).trans (x.out p hp), fun p h1 h2 => by
    obtain ⟨q, q1, q2, q3⟩ := y.fro p h1 h2
    obtain ⟨r, r1, r2, r3⟩ := x.fro q q1 q2
    exact ⟨r, r1, r2, q3.trans r3⟩, fun p h1 h2 => by
    obtain ⟨q, q1, q2, q3⟩ := x.to p h1 h2
    obtain ⟨r, r1, r2, r3⟩ := y.to q q1 q2
    exact ⟨r, r1, r2, r3.trans q3⟩⟩
theorem Rr.wide {f g : Nat → Nat} {a b a' b' : Nat} (x : Rr f g a b) (ha : a' ≤ a) (hb : b ≤ b') : Rr f g a' b' :=
  ⟨fun p hp => x.out p (by omega), fun p h1 h2 => by
    by_cases h : a ≤ p ∧ p < b
    · obtain ⟨q, q1, q2, q3⟩ := x.fro p h.1 h.2
      exact ⟨q, by omega, by omega, q3⟩
    · exact ⟨p, h1, h2, x.out p (by omega)⟩, fun p h1 h2 => by
    by_cases h : a ≤ p ∧ p < b
    · obtain ⟨q, q1, q2, q3⟩ := x.to p h.1 h.2
      exact ⟨q, by omega, by omega, q3⟩
    · exact ⟨p, h1, h2, x.out p (by omega)⟩⟩
theorem Rr.rot (f : Nat → Nat) {a m b : Nat} (h1 : a ≤ m) (h2 : m ≤ b) : Rr f (rot f a m b) a b := by
  refine ⟨fun p hp => ?_, fun p p1 p2 => ?_, fun q q1 q2 => ?_⟩
  · unfold Go.Proofs.Ythmkmjoeceghiaa.rot; rw [if_neg (by omega), if_neg (by omega)]
  · unfold Go.Proofs.Ythmkmjoeceghiaa.rot
    by_cases h : p < a + (b - m)
    · exact ⟨p + (m - a), by omega, by omega, by rw [if_pos ⟨p1, h⟩]⟩
    · exact ⟨p - (b - m), by omega, by omega, by rw [if_neg (by omega), if_pos (by omega)]⟩
  · unfold Go.Proofs.Ythmkmjoeceghiaa.rot
    by_cases h : q < m
    · exact ⟨q + (b - m), by omega, by omega, by rw [if_neg (by omega), if_pos (by omega)]; congr 1; omega⟩
    · exact ⟨q - (m - a), by omega, by omega, by rw [if_pos (by omega)]; congr 1; omega⟩
theorem Rr.swp (f : Nat → Nat) {x y a b : Nat} (h1 : a ≤ x) (h2 : x < b) (h3 : a ≤ y) (h4 : y < b) : Rr f (swp f x y) a b := by
  refine ⟨fun p hp => ?_, fun p p1 p2 => ?_, fun q q1 q2 => ?_⟩
  · unfold Go.Proofs.Ythmkmjoeceghiaa.swp; rw [if_neg (by omega), if_neg (by omega)]
  · unfold Go.Proofs.Ythmkmjoeceghiaa.swp
    split
    · exact ⟨y, h3, h4, rfl⟩
    · split
      · exact ⟨x, h1, h2, rfl⟩
      · exact ⟨p, p1, p2, rfl⟩
  · unfold Go.Proofs.Ythmkmjoeceghiaa.swp
    by_cases hx : q = x
    · subst hx
      by_cases hxy : y = q
      · exact ⟨q, q1, q2, by rw [if_pos rfl, hxy]⟩
      · exact ⟨y, h3, h4, by rw [if_neg hxy, if_pos rfl]⟩
    · by_cases hy : q = y
      · subst hy; exact ⟨x, h1, h2, by rw [if_pos rfl]⟩
      · exact ⟨q, q1, q2, by rw [if_neg hx, if_neg hy]⟩
def Srt (l : List Sp) (f : Nat → Nat) (a b : Nat) : Prop := ∀ p q, a ≤ p → p < q → q < b → before l (f p) (f q)
/-- all from a to m came ahead of all from m to b -/
def Lss (f : Nat → Nat) (a m b : Nat) : Prop := ∀ p q, a ≤ p → p < m → m ≤ q → q < b → f p < f q
theorem Srt.congr {l : List Sp} {f g : Nat → Nat} {a b : Nat} (h : Srt l f a b) (e : ∀ p, a ≤ p → p < b → g p = f p) : Srt l g a b := fun p q h1 h2 h3 => by
  rw [e p h1 (by omega), e q (by omega) h3]; exact h p q h1 h2 h3
/-- a and b go together -/
theorem Srt.join {l : List Sp} {f : Nat → Nat} {a m b : Nat} (h1 : Srt l f a m) (h2 : Srt l f m b) (hx : ∀ p q, a ≤ p → p < m → m ≤ q → q < b → before l (f p) (f q)) : Srt l f a b := fun p q p1 p2 p3 => by
  by_cases hp : q < m
  · exact h1 p q p1 p2 hp
  · by_cases hq : m ≤ p
    · exact h2 p q hq p2 p3
    · exact hx p q p1 (by omega) (by omega) p3
theorem cross_rr {l : List Sp} {f f2 f3 : Nat → Nat} {a m b : Nat} (hx : ∀ p q, a ≤ p → p < m → m ≤ q → q < b → before l (f p) (f q)) (r1 : Rr f f2 a m) (r2 : Rr f2 f3 m b) :
    ∀ p q, a ≤ p → p < m → m ≤ q → q < b → before l (f3 p) (f3 q) := fun p q p1 p2 p3 p4 => by
  obtain ⟨x, x1, x2, x3⟩ := r1.fro p p1 p2
  obtain ⟨y, y1, y2, y3⟩ := r2.fro q p3 p4
  rw [r2.out p (by omega), x3, y3, r1.out y (by omega)]
  exact hx x y x1 x2 y1 y2
/-- what stands where the search has ended -/
structure Met (l : List Sp) (f : Nat → Nat) (a m b s e : Nat) : Prop where
  as1 : a ≤ s
  sm : s ≤ m
  me : m ≤ e
  eb : e ≤ b
  s1 : Srt l f a m
  s2 : Srt l f m b
  ls : Lss f a m b
  lo : ∀ p q, a ≤ p → p < s → e ≤ q → q < b → before l (f p) (f q)
  hi : ∀ p q, m ≤ p → p < e → s ≤ q → q < m → before l (f p) (f q)
theorem rot_in {α : Type} {f : Nat → α} {s m e : Nat} {p : Nat} (h1 : s ≤ p) (h2 : p < s + (e - m)) : rot f s m e p = f (p + (m - s)) := by unfold rot; rw [if_pos ⟨h1, h2⟩]
theorem rot_in2 {α : Type} {f : Nat → α} {s m e : Nat} {p : Nat} (h1 : s + (e - m) ≤ p) (h2 : p < e) : rot f s m e p = f (p - (e - m)) := by unfold rot; rw [if_neg (by omega), if_pos ⟨h1, h2⟩]
theorem rot_off {α : Type} {f : Nat → α} {s m e : Nat} {p : Nat} (hs : s ≤ m) (hm : m ≤ e) (h : p < s ∨ e ≤ p) : rot f s m e p = f p := by unfold rot; rw [if_neg (by omega), if_neg (by omega)]
section
variable {l : List Sp} {f : Nat → Nat} {a m b s e : Nat}
theorem Met.l1 (h : Met l f a m b s e) : Srt l (rot f s m e) a s := fun p q p1 p2 p3 => by
  have := h.sm
  rw [rot_off h.sm h.me (.inl (by omega)), rot_off h.sm h.me (.inl p3)]
  exact h.s1 p q p1 p2 (by omega)
theorem Met.l2 (h : Met l f a m b s e) : Srt l (rot f s m e) s (s + (e - m)) := fun p q p1 p2 p3 => by
  have := h.sm; have := h.me; have := h.eb
  rw [rot_in p1 (by omega), rot_in (by omega) p3]
  exact h.s2 _ _ (by omega) (by omega) (by omega)
theorem Met.l3 (h : Met l f a m b s e) : Srt l (rot f s m e) (s + (e - m)) e := fun p q p1 p2 p3 => by
  have := h.sm; have := h.me; have := h.as1
  rw [rot_in2 p1 (by omega), rot_in2 (by omega) p3]
  exact h.s1 _ _ (by omega) (by omega) (by omega)
theorem Met.l4 (h : Met l f a m b s e) : Srt l (rot f s m e) e b := fun p q p1 p2 p3 => by
  have := h.me
  rw [rot_off h.sm h.me (.inr p1), rot_off h.sm h.me (.inr (by omega))]
  exact h.s2 _ _ (by omega) p2 p3
theorem Met.ls1 (h : Met l f a m b s e) : Lss (rot f s m e) a s (s + (e - m)) := fun p q p1 p2 p3 p4 => by
  have := h.sm; have := h.me; have := h.eb
  rw [rot_off h.sm h.me (.inl p2), rot_in p3 p4]
  exact h.ls _ _ p1 (by omega) (by omega) (by omega)
theorem Met.ls2 (h : Met l f a m b s e) : Lss (rot f s m e) (s + (e - m)) e b := fun p q p1 p2 p3 p4 => by
  have := h.sm; have := h.me; have := h.as1
  rw [rot_in2 p1 p2, rot_off h.sm h.me (.inr p3)]
  exact h.ls _ _ (by omega) (by omega) (by omega) p4
theorem Met.cross (h : Met l f a m b s e) : ∀ p q, a ≤ p → p < s + (e - m) → s + (e - m) ≤ q → q < b → before l (rot f s m e p) (rot f s m e q) := fun p q p1 p2 p3 p4 => by
  have := h.sm; have := h.me; have := h.as1; have := h.eb
  by_cases hp : p < s
  · rw [rot_off h.sm h.me (.inl hp)]
    by_cases hq : q < e
    · rw [rot_in2 p3 hq]
      exact h.s1 _ _ p1 (by omega) (by omega)
    · rw [rot_off h.sm h.me (.inr (by omega))]
      exact h.lo _ _ p1 hp (by omega) p4
  · rw [rot_in (by omega) p2]
    by_cases hq : q < e
    · rw [rot_in2 p3 hq]
      exact h.hi _ _ (by omega) (by omega) (by omega) (by omega)
    · rw [rot_off h.sm h.me (.inr (by omega))]
      exact h.s2 _ _ (by omega) (by omega) p4
/-- a left end, or a right one, that needs no more -/
theorem Met.left (h : Met l f a m b s e) (hh : ¬ (a < s ∧ s < s + (e - m))) : Srt l (rot f s m e) a (s + (e - m)) := by
  have := h.as1
  by_cases h1 : s = a
  · have h2 := h.l2; rw [← h1]; exact h2
  · rw [show s + (e - m) = s by omega]; exact h.l1
theorem Met.right (h : Met l f a m b s e) (hh : ¬ (s + (e - m) < e ∧ e < b)) : Srt l (rot f s m e) (s + (e - m)) b := by
  have := h.eb; have := h.sm; have := h.me
  by_cases h1 : e = b
  · have h2 := h.l3; rw [h1] at h2 ⊢; exact h2
  · rw [show s + (e - m) = e by omega]; exact h.l4
/-- the one on the right goes down to j -/
theorem one_dn {j : Nat} (s1 : Srt l f a m) (ls : Lss f a m (m + 1)) (haj : a ≤ j) (hjm : j ≤ m) (h1 : j = m ∨ before l (f m) (f j)) (h2 : j = a ∨ before l (f (j - 1)) (f m)) : Srt l (rot f j m (m + 1)) a (m + 1) := by
  have M : Met l f a m (m + 1) j (m + 1) := ⟨haj, hjm, by omega, Nat.le_refl _, s1, fun p q _ _ _ => by omega, ls, fun p q _ _ _ _ => by omega, fun p q p1 p2 q1 q2 => by
    obtain rfl : p = m := by omega
    have h := h1.resolve_left (by omega)
    by_cases e : q = j
    · rw [e]; exact h
    · exact before_trans h (s1 j q haj (by omega) q2)⟩
  have hmid : j + (m + 1 - m) = j + 1 := by omega
  have c := M.cross
  rw [hmid] at c
  have l2 := M.l2
  have l3 := M.l3
  rw [hmid] at l2 l3
  refine Srt.join (m := j + 1) (Srt.join M.l1 l2 fun p q p1 p2 q1 q2 => ?_) l3 c
  rw [rot_off hjm (by omega) (.inl p2), rot_in q1 (by omega), show q + (m - j) = m by omega]
  have h := h2.resolve_left (by omega)
  by_cases e : p = j - 1
  · rw [e]; exact h
  · exact before_trans (s1 p (j - 1) p1 (by omega) (by omega)) h
/-- the one on the left goes up to where i stands -/
theorem one_up {i : Nat} (s2 : Srt l f (a + 1) b) (ls : Lss f a (a + 1) b) (hai : a + 1 ≤ i) (hib : i ≤ b) (h1 : i = a + 1 ∨ before l (f (i - 1)) (f a)) (h2 : i = b ∨ before l (f a) (f i)) : Srt l (rot f a (a + 1) i) a b := by
  have M : Met l f a (a + 1) b a i := ⟨Nat.le_refl _, by omega, hai, hib, fun p q _ _ _ => by omega, s2, ls, fun p q _ _ _ _ => by omega, fun p q p1 p2 q1 q2 => by
    obtain rfl : q = a := by omega
    have h := h1.resolve_left (by omega)
    by_cases e : p = i - 1
    · rw [e]; exact h
    · exact before_trans (s2 p (i - 1) p1 (by omega) (by omega)) h⟩
  have hmid : a + (i - (a + 1)) = i - 1 := by omega
  have c := M.cross
  have l2 := M.l2
  have l3 := M.l3
  rw [hmid] at c l2 l3
  refine Srt.join (m := i - 1) l2 (Srt.join l3 M.l4 fun p q p1 p2 q1 q2 => ?_) c
  rw [rot_in2 (by omega) p2, rot_off (by omega) hai (.inr q1), show p - (i - (a + 1)) = a by omega]
  have h := h2.resolve_left (by omega)
  by_cases e : q = i
  · rw [e]; exact h
  · exact before_trans h (s2 i q hai (by omega) q2)
/-- what the search of a merge has found -/
theorem met_of {mid lo hi s : Nat} (ham : a < m) (hmb : m < b) (hmid : mid = (a + b) / 2) (s1 : Srt l f a m) (s2 : Srt l f m b) (ls : Lss f a m b)
    (hlo : lo = if m > mid then mid + m - b else a) (hhi : hi = if m > mid then mid else m) (hs1 : lo ≤ s) (hs2 : s ≤ hi)
    (h1 : s = lo ∨ before l (f (s - 1)) (f (mid + m - s))) (h2 : s = hi ∨ before l (f (mid + m - 1 - s)) (f s)) : Met l f a m b s (mid + m - s) ∧ s + (mid + m - s - m) = mid := by
  have b1 : a ≤ lo := by rw [hlo]; split <;> omega
  have b2 : hi ≤ m := by rw [hhi]; split <;> omega
  have b3 : hi ≤ mid := by rw [hhi]; split <;> omega
  have b4 : mid + m - lo ≤ b := by rw [hlo]; split <;> omega
  refine ⟨⟨by omega, by omega, by omega, by omega, s1, s2, ls, fun p q p1 p2 q1 q2 => ?_, fun p q p1 p2 q1 q2 => ?_⟩, by omega⟩
  · by_cases e : s = lo
    · rw [hlo] at e
      split at e <;> omega
    · have h := h1.resolve_left e
      have g1 : p = s - 1 ∨ before l (f p) (f (s - 1)) := by
        by_cases e : p = s - 1
        · exact .inl e
        · exact .inr (s1 p (s - 1) p1 (by omega) (by omega))
      have g2 : q = mid + m - s ∨ before l (f (mid + m - s)) (f q) := by
        by_cases e : q = mid + m - s
        · exact .inl e
        · exact .inr (s2 _ q (by omega) (by omega) q2)
      rcases g1 with rfl | g1 <;> rcases g2 with rfl | g2
      · exact h
      · exact before_trans h g2
      · exact before_trans g1 h
      · exact before_trans (before_trans g1 h) g2
  · by_cases e : s = hi
    · rw [hhi] at e
      split at e <;> omega
    · have h := h2.resolve_left e
      have g1 : p = mid + m - 1 - s ∨ before l (f p) (f (mid + m - 1 - s)) := by
        by_cases e : p = mid + m - 1 - s
        · exact .inl e
        · exact .inr (s2 p _ p1 (by omega) (by omega))
      have g2 : q = s ∨ before l (f s) (f q) := by
        by_cases e : q = s
        · exact .inl e
        · exact .inr (s1 s q (by omega) (by omega) q2)
      rcases g1 with rfl | g1 <;> rcases g2 with rfl | g2
      · exact h
      · exact before_trans h g2
      · exact before_trans g1 h
      · exact before_trans (before_trans g1 h) g2
end
end Go.Proofs.Ythmkmjoeceghiaa
