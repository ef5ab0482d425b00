/- Out: the objects that are out, in order. -/
import Derived.Test.YthmkmjoeceghiaaX
namespace Go.Proofs.Ythmkmjoeceghiaa
open Go.RowKit Go.Shelf

theorem fOb (d : Array Ob) : (Sort.flatK obCells 3 d).toList = d.toList.flatMap obCells := by
  apply List.ext_getElem?
  intro t
  by_cases h : t < d.size * 3
  · have hk : t / 3 < d.size := by omega
    have hd : d.toList[t / 3]? = some d[t / 3] := by rw [Array.getElem?_toList]; exact Array.getElem?_eq_getElem hk
    have := flatOb_at d.toList (t / 3) _ hd (t % 3) (by omega)
    rw [show t / 3 * 3 + t % 3 = t by omega] at this
    rw [this, Array.getElem?_toList, Array.getElem?_eq_getElem (by simpa using h)]
    have h2 := Sort.get_flatK obCells 3 d t h
    rw [getElem!_pos _ t (by simpa using h)] at h2
    rw [h2, getElem!_pos d (t / 3) hk]
    have hm : t % 3 < (obCells d[t / 3]).length := by show t % 3 < 3; omega
    rw [getElem!_pos (obCells d[t / 3]) (t % 3) hm, List.getElem?_eq_getElem hm]
  · rw [Array.getElem?_toList, Array.getElem?_eq_none (by simp; omega), List.getElem?_eq_none]
    rw [ob_len]; simp; omega
theorem sort_owns {w1 : World} {base n g cap m : Nat} {ys zs : List Ob} {os : Array Obj} (h : w1.ownsRow base 30 3 (.slice (some ⟨g, 0, none⟩) n cap) n (ys.flatMap obCells)) (hz : zs.length = n) :
    (sortWorldK obCells 3 w1 g 0 m zs.toArray os).ownsRow base 30 3 (.slice (some ⟨g, 0, none⟩) n cap) n (zs.flatMap obCells) ∧ Below base w1 (sortWorldK obCells 3 w1 g 0 m zs.toArray os) := by
  rcases h.2 with ⟨hn, _⟩ | ⟨g0, cap0, cur, he, hb, hg0, hnc, hcm, hcs, htk⟩
  · cases hn
  · obtain ⟨rfl, rfl⟩ : g = g0 ∧ cap = cap0 := by injection he with a b c; injection a with a; injection a with a; exact ⟨a, c⟩
    have hlt := (Array.getElem?_eq_some_iff.1 hg0).1
    have hF := fOb zs.toArray
    have hFs : (Sort.flatK obCells 3 zs.toArray).size = n * 3 := by simp [hz]
    have hblk : ∀ k, k < w1.heap.size → (sortWorldK obCells 3 w1 g 0 m zs.toArray os).heap[k]? = if g = k then some (.cells (Sort.putCells id 0 (Sort.flatK obCells 3 zs.toArray) cur) 30 (0, 0)) else w1.heap[k]? := by
      intro k hk
      unfold sortWorldK Sort.grow Sort.putRowK Sort.putRow Sort.mapBlock Sort.ahead
      simp only []
      rw [Array.getElem?_append_left (by simpa using hk), Array.getElem?_modify]
      by_cases e : g = k
      · subst e; rw [if_pos rfl, if_pos rfl, hg0]; rfl
      · rw [if_neg e, if_neg e]
    refine ⟨⟨by rw [ob_len, hz], .inr ⟨g, cap, _, rfl, hb, (hblk g hlt).trans (if_pos rfl), hnc, hcm, by simp [Sort.putCells, hcs], ?_⟩⟩, ?_⟩
    · rw [← hF]
      apply List.ext_getElem?
      intro t
      rw [List.getElem?_take]
      by_cases ht : t < n * 3
      · rw [if_pos ht, Array.getElem?_toList, Array.getElem?_toList]
        unfold Sort.putCells
        rw [Array.getElem?_mapIdx, Array.getElem?_eq_getElem (show t < cur.size by rw [hcs]; omega)]
        simp only [Option.map_some]
        rw [if_pos ⟨Nat.zero_le _, by rw [hFs]; omega⟩, Array.getElem?_eq_getElem (show t < (Sort.flatK obCells 3 zs.toArray).size by rw [hFs]; exact ht), getElem!_pos (Sort.flatK obCells 3 zs.toArray) (t - 0) (show t - 0 < (Sort.flatK obCells 3 zs.toArray).size by rw [hFs]; exact ht)]
        rfl
      · rw [if_neg ht, Array.getElem?_toList, Array.getElem?_eq_none (by rw [hFs]; omega)]
    · refine ⟨rfl, rfl, rfl, ?_, fun k hk => ?_⟩
      · simp [sortWorldK, Sort.grow, Sort.putRowK, Sort.putRow, Sort.mapBlock, Sort.ahead]
      · rw [hblk k (by omega), if_neg (by omega)]
theorem owns_holds {w1 : World} {base n g cap : Nat} {ys : List Ob} (h : w1.ownsRow base 30 3 (.slice (some ⟨g, 0, none⟩) n cap) n (ys.flatMap obCells)) (hl : ys.length = n) : Sort.HoldsK obCells 3 w1 g 0 ys.toArray := by
  rcases h.2 with ⟨hn, _⟩ | ⟨g0, cap0, cur, he, hb, hg0, hnc, hcm, hcs, htk⟩
  · cases hn
  · obtain ⟨rfl, rfl⟩ : g = g0 ∧ cap = cap0 := by injection he with a b c; injection a with a; injection a with a; exact ⟨a, c⟩
    intro j hj
    have hF := fOb ys.toArray
    have hj3 : j < n * 3 := by simpa [hl] using hj
    refine ⟨?_, by simp [World.frozen?, hg0]⟩
    rw [World.cell?, Nat.zero_add]
    have hc : cur[j]? = some (Sort.flatK obCells 3 ys.toArray)[j] := by
      rw [← Array.getElem?_toList]
      have h1 := congrArg (fun l : List Value => l[j]?) htk
      simp only [List.getElem?_take, if_pos hj3] at h1
      rw [h1, ← show (Sort.flatK obCells 3 ys.toArray).toList = ys.flatMap obCells from hF, Array.getElem?_toList, Array.getElem?_eq_getElem hj]
    simp [hg0, hc]
    rw [getElem!_pos (Sort.flatK obCells 3 ys.toArray) j hj]
/-- the order is one -/
theorem ahead_irr (a : Ob) : ahead a a = false := by simp [ahead]
theorem ahead_iff (a b : Ob) : ahead a b = true ↔ a.1 < b.1 ∨ a.1 = b.1 ∧ (a.2.1 < b.2.1 ∨ a.2.1 = b.2.1 ∧ a.2.2 < b.2.2) := by
  unfold ahead
  by_cases h1 : a.1 = b.1
  · by_cases h2 : a.2.1 = b.2.1
    · simp [h1, h2]
    · simp [h1, h2]
  · simp [h1]
theorem ahead_trans {a b c : Ob} (h1 : ahead a b = true) (h2 : ahead b c = true) : ahead a c = true := by
  rw [ahead_iff] at *; omega
theorem ahead_tot {a b : Ob} (h1 : ahead a b = false) (h2 : ahead b a = false) : a = b := by
  rw [Bool.eq_false_iff, ne_eq, ahead_iff] at *
  obtain ⟨a0, a1, a2⟩ := a
  obtain ⟨b0, b1, b2⟩ := b
  simp only [Prod.mk.injEq] at *
  omega
theorem ltOb : ltOf cmpO = ahead := by funext a b; exact cmpO_ahead a b
theorem swoOb : Sort.SWO (ltOf cmpO) where
  irrefl a := by rw [ltOb]; exact ahead_irr a
  trans a b c h1 h2 := by rw [ltOb] at *; exact ahead_trans h1 h2
  ntrans a b c h1 h2 := by rw [ltOb] at *; rw [Bool.eq_false_iff, ne_eq, ahead_iff] at *; omega
/-- in order, each once -/
def Up (S : List Ob) : Prop := S.Pairwise fun a b => ahead a b = true
theorem Up.nodup {S : List Ob} (h : Up S) : S.Nodup := List.Pairwise.imp_of_mem (fun {a b} _ _ hab e => by subst e; rw [ahead_irr] at hab; cases hab) h
theorem sort_up {S ys : List Ob} (hS : Up S) (hn : ys.Nodup) (hm : ∀ o, o ∈ ys ↔ o ∈ S) : ys.mergeSort (fun x y => !(ahead y x)) = S := by
  have tr : ∀ a b c : Ob, (!(ahead b a)) = true → (!(ahead c b)) = true → (!(ahead c a)) = true := fun a b c h1 h2 => by
    simp only [Bool.not_eq_true', Bool.eq_false_iff, ne_eq, ahead_iff] at *
    omega
  have tot : ∀ a b : Ob, (!(ahead b a) || !(ahead a b)) = true := fun a b => by
    cases h : ahead b a with
    | false => rfl
    | true =>
      cases h2 : ahead a b with
      | false => rfl
      | true => have := ahead_trans h h2; rw [ahead_irr] at this; cases this
  refine List.Perm.eq_of_pairwise (le := fun a b => (!(ahead b a)) = true) (fun a b _ _ h1 h2 => ahead_tot (by simpa using h2) (by simpa using h1)) (List.pairwise_mergeSort tr tot ys) ?_ ((List.mergeSort_perm ys _).trans ((List.perm_ext_iff_of_nodup hn hS.nodup).2 hm))
  refine List.Pairwise.imp_of_mem (fun {a b} _ _ hab => ?_) hS
  cases h : ahead b a with
  | false => rfl
  | true => have := ahead_trans hab h; rw [ahead_irr] at this; cases this
theorem putL_up {S : List Ob} (h : Up S) (o : Ob) (ho : o ∉ S) : Up (putL S o) := by
  induction S with
  | nil => simp [Up, putL]
  | cons x S ih =>
    have hx := List.pairwise_cons.1 h
    unfold putL
    by_cases hxo : ahead x o = true
    · rw [List.takeWhile_cons_of_pos (by simpa using hxo), List.dropWhile_cons_of_pos (by simpa using hxo), List.cons_append]
      refine List.pairwise_cons.2 ⟨fun y hy => ?_, ih hx.2 (fun hm => ho (List.mem_cons_of_mem _ hm))⟩
      rcases (mem_putL S o y).1 hy with rfl | hy
      · exact hxo
      · exact hx.1 y hy
    · rw [List.takeWhile_cons_of_neg (by simpa using hxo), List.dropWhile_cons_of_neg (by simpa using hxo)]
      have hox : ahead o x = true := by
        cases h2 : ahead o x with
        | true => rfl
        | false => exact absurd (ahead_tot (by simpa using hxo) h2) (fun e => ho (by rw [e]; exact List.mem_cons_self))
      refine List.pairwise_cons.2 ⟨fun y hy => ?_, h⟩
      rcases List.mem_cons.1 hy with rfl | hy
      · exact hox
      · exact ahead_trans hox (hx.1 y hy)
theorem dropL_up {S : List Ob} (h : Up S) (o : Ob) : Up (dropL S o) := List.Pairwise.filter _ h
end Go.Proofs.Ythmkmjoeceghiaa
