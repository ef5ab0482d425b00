/- The bads ahead of a give are steps of the urgent order. -/
import Derived.Test.YthmkmjoeceghiaaPK
import Derived.Test.YthmkmjoeceghiaaPF
namespace Go.Proofs.Ythmkmjoeceghiaa

theorem badsOf_eq (l : List Sp) (σ out : List Nat) (m : Nat) : badsOf l σ out m = σ.filter (badP l out m) := by
  unfold badsOf tau
  rw [List.filter_filter]
  congr 1
  funext i
  unfold badP badQ
  rw [Bool.eq_iff_iff]
  simp only [Bool.and_eq_true, decide_eq_true_eq, Prod.ext_iff]
  constructor
  · rintro ⟨⟨⟨h1, h2⟩, h3⟩, h4, h5⟩; exact ⟨⟨⟨⟨h1, h4⟩, h5⟩, h2⟩, h3⟩
  · rintro ⟨⟨⟨⟨h1, h4⟩, h5⟩, h2⟩, h3⟩; exact ⟨⟨⟨h1, h2⟩, h3⟩, h4, h5⟩
theorem badP_add (l : List Sp) (out : List Nat) (m b i : Nat) : badP l (out ++ [b]) m i = (decide (i ≠ b) && badP l out m i) := by
  rw [Bool.eq_iff_iff, badP_iff, Bool.and_eq_true, badP_iff]
  simp only [List.mem_append, List.mem_singleton, not_or, decide_eq_true_eq, ne_eq]
  constructor
  · rintro ⟨⟨h1, h2⟩, h⟩; exact ⟨h2, h1, h⟩
  · rintro ⟨h2, h1, h⟩; exact ⟨⟨h1, h2⟩, h⟩
theorem bads_tail {l : List Sp} {σ out rest : List Nat} {m b : Nat} (hn : σ.Nodup) (h : σ.filter (badP l out m) = b :: rest) : σ.filter (badP l (out ++ [b]) m) = rest := by
  have e : (badP l (out ++ [b]) m) = fun i => decide (i ≠ b) && badP l out m i := by funext i; exact badP_add l out m b i
  rw [e, ← List.filter_filter, h]
  have hd : (b :: rest).Nodup := by rw [← h]; exact hn.filter _
  have hb := (List.nodup_cons.1 hd).1
  rw [List.filter_cons_of_neg (by simp)]
  exact List.filter_eq_self.2 fun i hi => by
    simp only [ne_eq, decide_not, Bool.not_eq_true', decide_eq_false_iff_not]
    intro e; exact hb (e ▸ hi)
theorem urg_add {l : List Sp} {out : List Nat} {m b : Nat} (h : urg l out = some m) (hb : m ≠ b) : urg l (out ++ [b]) = some m := by
  obtain ⟨h1, h2, h3⟩ := least_some.1 h
  refine least_some.2 ⟨h1, ?_, fun j hj hp => h3 j hj ?_⟩
  · rw [urgP_iff] at h2 ⊢
    exact ⟨by simp [h2.1, hb], h2.2⟩
  · rw [urgP_iff] at hp ⊢
    exact ⟨fun hm => hp.1 (by simp [hm]), hp.2⟩
theorem base_add {l : List Sp} {out : List Nat} {S : List Ob} {m b x : Nat} (h : base l out S m = some x) (hx : (sp l x).1.1 = 1) (hb : (sp l b).1.1 = 4) : base l (out ++ [b]) S m = some x := by
  unfold base at h ⊢
  split
  · rename_i hbl
    rw [if_pos hbl] at h
    unfold hlp at h ⊢
    obtain ⟨h1, h2, h3⟩ := least_some.1 h
    have hK : hlpK S (sp l m) = 1 := by rw [hlpP_iff] at h2; rw [← h2.2.2.1, hx]
    rw [hK] at h2 h3 ⊢
    refine least_some.2 ⟨h1, ?_, fun j hj hp => h3 j hj ?_⟩
    · rw [hlpP_iff] at h2 ⊢
      refine ⟨?_, h2.2⟩
      simp only [List.mem_append, List.mem_singleton, not_or]
      exact ⟨h2.1, fun e => by rw [e, hb] at hx; cases hx⟩
    · rw [hlpP_iff] at hp ⊢
      exact ⟨fun hm => hp.1 (by simp [hm]), hp.2⟩
  · rename_i hbl
    rw [if_neg hbl] at h
    exact h
/-- all bads that must come first, one after another -/
theorem line_bads {l : List Sp} {σ : List Nat} (hσ : σ.Pairwise (before l)) (hm : ∀ i, i ∈ σ ↔ i < l.length) (hn : σ.Nodup) {m x : Nat} (hx : (sp l x).1.1 = 1) (hm4 : (sp l m).1.1 ≠ 4) {S : List Ob} :
    ∀ (bs : List Nat) (n : Nat) (out : List Nat), σ.filter (badP l out m) = bs → urg l out = some m → base l out S m = some x →
      lineF l (n + bs.length) out S = lineF l n (out ++ bs) S ∧ urg l (out ++ bs) = some m ∧ base l (out ++ bs) S m = some x ∧ bad l (out ++ bs) m = none
  | [], n, out, h, hu, hb => by
    refine ⟨by simp, by simpa using hu, by simpa using hb, ?_⟩
    rw [List.append_nil]
    unfold bad
    rw [least_none]
    intro j hj
    have := List.filter_eq_nil_iff.1 h j ((hm j).2 hj)
    simpa using this
  | b :: bs, n, out, h, hu, hb => by
    have hbm : b ∈ σ.filter (badP l out m) := by rw [h]; simp
    have hbp := (badP_iff l out m b).1 (List.mem_filter.1 hbm).2
    have hne : m ≠ b := fun e => hm4 (by rw [e]; exact hbp.2.1)
    have hbad : bad l out m = some b := by
      unfold bad
      rw [least_find hσ hm, ← List.head?_filter, h]; rfl
    have hp := bad_iff3 hb hx hbad
    have ih := line_bads hσ hm hn hx hm4 bs n (out ++ [b]) (bads_tail hn h) (urg_add hu hne) (base_add hb hx hbp.2.1)
    rw [List.append_assoc] at ih
    refine ⟨?_, ih.2.1, ih.2.2.1, ih.2.2.2⟩
    rw [List.length_cons, show n + (bs.length + 1) = (n + bs.length) + 1 by omega, lineF_step hu hp, neutral_doS (.inr hbp.2.1)]
    exact ih.1
/-- the first one that is left is the urgent one -/
theorem urg_first {l : List Sp} {σ out : List Nat} (hσ : σ.Pairwise (before l)) (hm : ∀ i, i ∈ σ ↔ i < l.length) {p c : Nat} (hpre : ∀ y ∈ σ.take p, y ∈ out) (hc : σ[p]? = some c) (hco : c ∉ out) (ht : 0 ≤ (sp l c).2.2) : urg l out = some c := by
  unfold urg
  rw [least_find hσ hm]
  refine (find_take (k := p) (x := c) ?_ hc).1 ((urgP_iff l out c).2 ⟨hco, ht⟩)
  rw [List.find?_eq_none]
  intro y hy
  rw [urgP_iff]
  exact fun h => h.1 (hpre y hy)
/-- at a pending one, or at the end, nothing is urgent -/
theorem urg_end {l : List Sp} {σ out : List Nat} (hσ : σ.Pairwise (before l)) (hm : ∀ i, i ∈ σ ↔ i < l.length) {p : Nat} (hpre : ∀ y ∈ σ.take p, y ∈ out) (hc : ∀ c, σ[p]? = some c → (sp l c).2.2 < 0) : urg l out = none := by
  unfold urg
  rw [least_find hσ hm, List.find?_eq_none]
  intro y hy
  rw [urgP_iff]
  rintro ⟨h1, h2⟩
  obtain ⟨q, hq, he⟩ := List.getElem_of_mem hy
  by_cases hqp : q < p
  · exact h1 (hpre y (by rw [← he]; exact List.mem_take_iff_getElem.2 ⟨q, by omega, rfl⟩))
  · have hp : p < σ.length := by omega
    have hcp := hc σ[p] (List.getElem?_eq_getElem hp)
    by_cases e : q = p
    · subst e; rw [he] at hcp; omega
    · have := List.pairwise_iff_getElem.1 hσ p q hp hq (by omega)
      rw [he, before_iff] at this
      omega
end Go.Proofs.Ythmkmjoeceghiaa
