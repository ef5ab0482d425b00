/- The walk over the reference's Next; the laws PickTells, PickGaps; works. -/
import Derived.Test.YtlndhdficackcaaD
namespace Go.Proofs.Ytlndhdficackcaa
open Go.RowKit Go.Shelf

theorem mem_tr {bs : List Bool} {c : Nat} : c ∈ tr bs ↔ bs[c]? = some true := by
  simp only [tr, List.mem_map, List.mem_filter]
  constructor
  · rintro ⟨⟨b, j⟩, ⟨hj, hb⟩, rfl⟩
    have := List.mk_mem_zipIdx_iff_getElem?.1 hj
    simp only at hb; subst hb; exact this
  · intro h
    exact ⟨(true, c), ⟨List.mk_mem_zipIdx_iff_getElem?.2 h, rfl⟩, rfl⟩
theorem zip_sorted : ∀ (bs : List Bool) (k : Nat), (bs.zipIdx k).Pairwise (fun x y => x.2 < y.2)
  | [], _ => by simp
  | b :: r, k => by
    rw [List.zipIdx_cons]
    refine List.pairwise_cons.2 ⟨fun y hy => ?_, zip_sorted r (k + 1)⟩
    have := List.le_snd_of_mem_zipIdx hy
    simp only; omega
theorem tr_sorted (bs : List Bool) : (tr bs).Pairwise (· < ·) := by
  unfold tr
  rw [List.pairwise_map]
  exact (zip_sorted bs 0).filter _
theorem find_sorted (p : Nat → Bool) (c : Nat) (hp : p c = true) : ∀ (l : List Nat), l.Pairwise (· < ·) → c ∈ l → (∀ c' ∈ l, p c' = true → c ≤ c') → l.find? p = some c
  | [], _, h, _ => by cases h
  | y :: r, hs, h, hm => by
    obtain ⟨h1, h2⟩ := List.pairwise_cons.1 hs
    cases hy : p y with
    | true =>
      rw [List.find?_cons_of_pos hy]
      have hcy := hm y (by simp) hy
      rcases List.mem_cons.1 h with rfl | hr
      · rfl
      · have := h1 c hr; omega
    | false =>
      rw [List.find?_cons_of_neg (by simp [hy])]
      rcases List.mem_cons.1 h with rfl | hr
      · rw [hp] at hy; cases hy
      · exact find_sorted p c hp r h2 hr (fun c' hc' => hm c' (by simp [hc']))

/-- the place that the reference looks at, in its i-th round -/
def at_ (n L i : Nat) : Nat := (L + i) % n
theorem at_lt {n L i : Nat} (h : 0 < n) : at_ n L i < n := Nat.mod_lt _ h
/-- each place is looked at -/
theorem at_all {n L c : Nat} (hL : L < n) (hc : c < n) : ∃ i, 1 ≤ i ∧ i ≤ n ∧ at_ n L i = c := by
  unfold at_
  by_cases h : L < c
  · exact ⟨c - L, by omega, by omega, by rw [show L + (c - L) = c from by omega, Nat.mod_eq_of_lt hc]⟩
  · refine ⟨n - L + c, by omega, by omega, ?_⟩
    rw [show L + (n - L + c) = n + c from by omega, Nat.add_mod_left, Nat.mod_eq_of_lt hc]
theorem at_small {n L i : Nat} (hi : L + i < n) : at_ n L i = L + i := Nat.mod_eq_of_lt hi
theorem at_great {n L i : Nat} (h1 : n ≤ L + i) (h2 : L + i < 2 * n) : at_ n L i = L + i - n := by
  unfold at_; rw [Nat.mod_eq_sub_mod h1, Nat.mod_eq_of_lt (by omega)]

/-- where the reference begins -/
def from_ (n : Nat) (last : Int) : Nat := if last < 0 ∨ (n : Int) ≤ last then n - 1 else last.toNat
theorem from_lt {n : Nat} (h : 0 < n) (last : Int) : from_ n last < n := by unfold from_; split <;> omega

theorem rnext_none {bs : List Bool} {last : Int} (h : 0 < bs.length) (ha : ∀ i, 1 ≤ i → i ≤ bs.length → bs[at_ bs.length (from_ bs.length last) i]? ≠ some true) : nextA bs last = 0 ∧ pickB bs = false := by
  have he : tr bs = [] := by
    rcases List.eq_nil_or_concat (tr bs) with h | ⟨l, x, hx⟩
    · exact h
    · have hm : x ∈ tr bs := by rw [hx]; simp
      have hx' := mem_tr.1 hm
      have hlt := (List.getElem?_eq_some_iff.1 hx').1
      obtain ⟨i, h1, h2, h3⟩ := at_all (from_lt h last) hlt
      exact absurd (h3 ▸ hx') (ha i h1 h2)
  simp [nextA, pickB, he]

theorem rnext_hit {bs : List Bool} {last : Int} {i : Nat} (h : 0 < bs.length) (hi : 1 ≤ i) (hi' : i ≤ bs.length) (ha : ∀ j, 1 ≤ j → j < i → bs[at_ bs.length (from_ bs.length last) j]? ≠ some true)
    (hit : bs[at_ bs.length (from_ bs.length last) i]? = some true) : nextA bs last = at_ bs.length (from_ bs.length last) i ∧ pickB bs = true := by
  have hm := mem_tr.2 hit
  have hB : pickB bs = true := by unfold pickB; simp; intro e; rw [e] at hm; cases hm
  refine ⟨?_, hB⟩
  have hc := at_lt (L := from_ bs.length last) (i := i) h
  -- whoever is looked at earlier is no true one
  have hfirst : ∀ c ∈ tr bs, ∀ j, 1 ≤ j → j ≤ bs.length → at_ bs.length (from_ bs.length last) j = c → i ≤ j := fun c hcm j h1 h2 h3 => by
    rcases Nat.lt_or_ge j i with h | h
    · exact absurd (h3 ▸ mem_tr.1 hcm) (ha j h1 h)
    · exact h
  have hfl := from_lt h last
  have lens : ∀ c ∈ tr bs, c < bs.length := fun c hc => (List.getElem?_eq_some_iff.1 (mem_tr.1 hc)).1
  unfold nextA
  by_cases hout : last < 0 ∨ (bs.length : Int) ≤ last
  · have hf : from_ bs.length last = bs.length - 1 := by unfold from_; rw [if_pos hout]
    have hci : at_ bs.length (from_ bs.length last) i = i - 1 := by rw [hf]; rw [at_great (by omega) (by omega)]; omega
    have hleast : ∀ c ∈ tr bs, at_ bs.length (from_ bs.length last) i ≤ c := fun c hcm => by
      have hl := lens c hcm
      have := hfirst c hcm (c + 1) (by omega) (by omega) (by rw [hf, at_great (by omega) (by omega)]; omega)
      omega
    rcases hout with ho | ho
    · rw [find_sorted _ (at_ bs.length (from_ bs.length last) i) (by simp; omega) _ (tr_sorted bs) hm (fun c hcm _ => hleast c hcm)]
    · rw [find_none_iff _ _ (fun x hx => by have := lens x hx; omega)]
      have hh : (tr bs).head? = some (at_ bs.length (from_ bs.length last) i) := by
        have := find_sorted (fun _ => true) (at_ bs.length (from_ bs.length last) i) rfl _ (tr_sorted bs) hm (fun c hcm _ => hleast c hcm)
        revert this
        cases tr bs <;> simp
      simp [hh]
  · have hf : (from_ bs.length last : Int) = last := by unfold from_; rw [if_neg hout]; omega
    generalize from_ bs.length last = L at *
    by_cases hs : L + i < bs.length
    · have hci := at_small hs
      rw [find_sorted _ (at_ bs.length L i) (by simp; omega) _ (tr_sorted bs) hm (fun c hcm hgt => by
        have hl := lens c hcm
        simp at hgt
        have := hfirst c hcm (c - L) (by omega) (by omega) (by rw [at_small (by omega)]; omega)
        omega)]
    · have hci := at_great (n := bs.length) (L := L) (i := i) (by omega) (by omega)
      have hno : ∀ c ∈ tr bs, (c : Int) ≤ last := fun c hcm => by
        have hl := lens c hcm
        rcases Nat.lt_or_ge L c with hlc | hlc
        · have := hfirst c hcm (c - L) (by omega) (by omega) (by rw [at_small (by omega)]; omega)
          omega
        · omega
      rw [find_none_iff _ _ hno]
      have hleast : ∀ c ∈ tr bs, at_ bs.length L i ≤ c := fun c hcm => by
        have hl := lens c hcm
        have := hno c hcm
        have := hfirst c hcm (bs.length - L + c) (by omega) (by omega) (by rw [at_great (by omega) (by omega)]; omega)
        omega
      have hh : (tr bs).head? = some (at_ bs.length L i) := by
        have := find_sorted (fun _ => true) (at_ bs.length L i) rfl _ (tr_sorted bs) hm (fun c hcm _ => hleast c hcm)
        revert this
        cases tr bs <;> simp
      simp [hh]
end Go.Proofs.Ytlndhdficackcaa
