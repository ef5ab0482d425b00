/- PickAll: the plain law. -/
import Derived.Test.YtlndhdficackcaaH
namespace Go.Proofs.Ytlndhdficackcaa
open Go.RowKit Go.Shelf

/-- who is told at the j-th call -/
def pk (bs : List Bool) (from_ : Int) (j : Nat) : Nat := (tr bs)[((from_ + j) % (tr bs).length).toNat]?.getD 0
def told (bs : List Bool) (f : Int) (k c : Nat) : Nat := (List.range k).countP (fun j => pk bs f j == c)
theorem told_zero (bs : List Bool) (f : Int) (c : Nat) : told bs f 0 c = 0 := rfl
theorem told_succ (bs : List Bool) (f : Int) (k c : Nat) : told bs f (k + 1) c = told bs f k c + (if c = pk bs f k then 1 else 0) := by
  unfold told
  rw [List.range_succ, List.countP_append]
  congr 1
  by_cases h : c = pk bs f k
  · simp [h]
  · have : ¬ pk bs f k = c := fun e => h e.symm
    simp [this, h]
theorem told_le (bs : List Bool) (f : Int) (k c : Nat) : told bs f k c ≤ k := by
  unfold told
  have := List.countP_le_length (p := fun j => pk bs f j == c) (l := List.range k)
  simpa using this
theorem pk_idx {bs : List Bool} {f : Int} {j : Nat} (h : 0 < (tr bs).length) : ∃ r, r < (tr bs).length ∧ ((r : Nat) : Int) = (f + j) % (tr bs).length ∧ (tr bs)[r]? = some (pk bs f j) := by
  have h0 : 0 ≤ (f + j) % ((tr bs).length : Int) := Int.emod_nonneg _ (by omega)
  have h1 : (f + j) % ((tr bs).length : Int) < ((tr bs).length : Int) := Int.emod_lt_of_pos _ (by omega)
  refine ⟨((f + j) % ((tr bs).length : Int)).toNat, by omega, by omega, ?_⟩
  unfold pk
  rw [List.getElem?_eq_getElem (by omega)]; rfl
theorem pk_runs {bs : List Bool} {f : Int} {j : Nat} (h : 0 < (tr bs).length) : bs[pk bs f j]? = some true := by
  obtain ⟨r, _, _, hr⟩ := pk_idx (f := f) (j := j) h
  exact mem_tr.1 (List.mem_of_getElem? hr)
theorem pk_pick {bs : List Bool} {f : Int} {j : Nat} (h : 0 < (tr bs).length) : pickA bs (f + j) = pk bs f j ∧ pickB bs = true := by
  obtain ⟨r, _, hr, hx⟩ := pk_idx (f := f) (j := j) h
  exact pick_some _ (by intro e; rw [e] at h; exact absurd h (by simp)) hr.symm hx
theorem tr_nodup (bs : List Bool) : (tr bs).Nodup := List.Pairwise.imp_of_mem (fun _ _ h => Nat.ne_of_lt h) (tr_sorted bs)
theorem nodup_idx {α : Type} {l : List α} (h : l.Nodup) {i j : Nat} (hi : i < l.length) (hij : l[i]? = l[j]?) : i = j := (List.getElem?_inj hi h).1 hij
theorem told_all {bs : List Bool} (f : Int) (c : Nat) : told bs f (tr bs).length c = if bs[c]? = some true then 1 else 0 := by
  by_cases hc : bs[c]? = some true
  · rw [if_pos hc]
    obtain ⟨r, hr, hrc⟩ := List.getElem_of_mem (mem_tr.2 hc)
    have hn : 0 < (tr bs).length := by omega
    have h0 : 0 ≤ ((r : Int) - f) % ((tr bs).length : Int) := Int.emod_nonneg _ (by omega)
    have h1 : ((r : Int) - f) % ((tr bs).length : Int) < ((tr bs).length : Int) := Int.emod_lt_of_pos _ (by omega)
    obtain ⟨j0, hj0⟩ : ∃ j0 : Nat, (j0 : Int) = ((r : Int) - f) % ((tr bs).length : Int) := ⟨_, Int.toNat_of_nonneg h0⟩
    have : told bs f (tr bs).length c = (List.range (tr bs).length).count j0 := by
      unfold told
      rw [List.count]
      refine List.countP_congr fun j hj => ?_
      have hj := List.mem_range.1 hj
      obtain ⟨r', hr', hr1, hr2⟩ := pk_idx (f := f) (j := j) hn
      have hpk : pk bs f j = c ↔ r' = r := by
        constructor
        · intro e
          exact nodup_idx (tr_nodup bs) hr' (by rw [hr2, List.getElem?_eq_getElem hr, hrc, e])
        · rintro rfl
          rw [List.getElem?_eq_getElem hr, hrc] at hr2
          exact (Option.some.inj hr2).symm
      have hrj : r' = r ↔ j = j0 := by
        constructor
        · rintro rfl
          have e1 : ((r' : Int) - f) % ((tr bs).length : Int) = (j : Int) % ((tr bs).length : Int) := by
            rw [hr1, Int.sub_emod, Int.emod_emod, ← Int.sub_emod]
            congr 1; omega
          rw [← hj0, Int.emod_eq_of_lt (a := (j : Int)) (by omega) (by omega)] at e1
          omega
        · rintro rfl
          have e1 : (r' : Int) = (r : Int) % ((tr bs).length : Int) := by
            rw [hr1, hj0, Int.add_emod, Int.emod_emod, ← Int.add_emod]
            congr 1; omega
          rw [Int.emod_eq_of_lt (a := (r : Int)) (by omega) (by omega)] at e1
          omega
      simp [hpk, hrj]
    rw [this, List.nodup_range.count, if_pos (by simp; omega)]
  · rw [if_neg hc]
    unfold told
    refine List.countP_eq_zero.2 fun j hj => ?_
    have hj := List.mem_range.1 hj
    have := pk_runs (bs := bs) (f := f) (j := j) (by omega)
    simp only [beq_iff_eq]
    rintro rfl
    exact hc this
end Go.Proofs.Ytlndhdficackcaa
