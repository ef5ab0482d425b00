/- Histories whose calls follow each other, or were shaken: their orders, by definition. -/
import Derived.Test.YthmkmjoeceghiaaRF
namespace Go.Proofs.Ythmkmjoeceghiaa

theorem sorted_uniq : ∀ (a b : List Nat), a.Pairwise (· < ·) → b.Pairwise (· < ·) → (∀ x, x ∈ a ↔ x ∈ b) → a = b
  | [], [], _, _, _ => rfl
  | [], y :: b, _, _, h => by have := (h y).2 (by simp); cases this
  | x :: a, [], _, _, h => by have := (h x).1 (by simp); cases this
  | x :: a, y :: b, ha, hb, h => by
    have ha' := List.pairwise_cons.1 ha
    have hb' := List.pairwise_cons.1 hb
    have e : x = y := by
      have h1 := (h x).1 (by simp)
      have h2 := (h y).2 (by simp)
      rcases List.mem_cons.1 h1 with h1 | h1
      · exact h1
      · rcases List.mem_cons.1 h2 with h2 | h2
        · exact h2.symm
        · have := hb'.1 x h1; have := ha'.1 y h2; omega
    subst e
    rw [sorted_uniq a b ha'.2 hb'.2 (fun z => by
      have := h z
      rw [List.mem_cons, List.mem_cons] at this
      constructor
      · intro hz
        rcases this.1 (.inr hz) with e | hz'
        · subst e; have := ha'.1 z hz; omega
        · exact hz'
      · intro hz
        rcases this.2 (.inr hz) with e | hz'
        · subst e; have := hb'.1 z hz; omega
        · exact hz')]
theorem nodup_sub : ∀ (a b : List Nat), a.Nodup → (∀ x ∈ a, x ∈ b) → a.length ≤ b.length
  | [], _, _, _ => Nat.zero_le _
  | x :: a, b, ha, h => by
    have ha' := List.nodup_cons.1 ha
    have hx := h x (by simp)
    have ih := nodup_sub a (b.erase x) ha'.2 (fun y hy => (List.mem_erase_of_ne (fun e => ha'.1 (by subst e; exact hy))).2 (h y (by simp [hy])))
    rw [List.length_erase_of_mem hx] at ih
    have : 0 < b.length := List.length_pos_of_mem hx
    rw [List.length_cons]; omega
/-- if there is an order, Line answers one -/
theorem lineT_some {l : List Sp} (hv : AllMay l) {σ : List Nat} (h : Goes l [] [] σ) : ∃ r, lineT l = some r ∧ Goes l [] [] r := by
  obtain ⟨r, hr⟩ := lineF_full hv (l.length + 1) [] [] σ h (by simp) (fun j hj => by cases hj) (fun j hj => by cases hj) (by simp)
  obtain ⟨τ, rfl, hg⟩ := lineF_goes hv _ _ _ _ hr (fun j hj => by cases hj)
  exact ⟨_, hr, hg⟩
theorem lineT_goes {l : List Sp} (hv : AllMay l) {r : List Nat} (h : lineT l = some r) : Goes l [] [] r := by
  obtain ⟨τ, rfl, hg⟩ := lineF_goes hv _ _ _ _ h (fun j hj => by cases hj)
  exact hg
theorem chk_may {l : List Sp} (h1 : l.length ≤ 256) (h2 : AllMay l) : chk l = 0 := by
  unfold chk
  rw [if_neg (by omega), if_pos]
  rw [List.all_eq_true]
  intro x hx
  obtain ⟨i, hi, rfl⟩ := List.getElem_of_mem hx
  rw [mayB_iff, ← sp_at (List.getElem?_eq_getElem hi)]
  exact h2 i hi
/-- deeds that follow each other -/
def rowS (ds : List Dd) : List Sp := ds.mapIdx fun i d => (d, 2 * (i : Int), 2 * (i : Int) + 1)
theorem rowS_len (ds : List Dd) : (rowS ds).length = ds.length := by unfold rowS; simp
theorem rowS_at {ds : List Dd} {i : Nat} (hi : i < ds.length) : sp (rowS ds) i = (ds[i], 2 * (i : Int), 2 * (i : Int) + 1) := by
  refine sp_at ?_
  unfold rowS
  rw [List.getElem?_mapIdx, List.getElem?_eq_getElem hi]; rfl
theorem rowS_add (ds : List Dd) (d : Dd) : rowS (ds ++ [d]) = rowS ds ++ [(d, 2 * (ds.length : Int), 2 * (ds.length : Int) + 1)] := by
  unfold rowS; rw [List.mapIdx_append]; simp
theorem rowS_may {ds : List Dd} (hf : ∀ d ∈ ds, Fine d) (hl : ds.length ≤ 40) : AllMay (rowS ds) := fun i hi => by
  rw [rowS_len] at hi
  rw [rowS_at hi]
  have h := hf ds[i] (List.getElem_mem hi)
  exact ⟨h.1, h.2.1, h.2.2, by dsimp only; omega, by dsimp only; omega, by dsimp only; omega, .inr (by dsimp only; omega)⟩
theorem rowS_deeds (ds : List Dd) : ((List.range ds.length).map fun k => (sp (rowS ds) k).1) = ds := by
  refine List.ext_getElem? fun i => ?_
  rw [List.getElem?_map]
  by_cases hi : i < ds.length
  · rw [List.getElem?_range hi, List.getElem?_eq_getElem hi, Option.map_some, rowS_at hi]
  · rw [List.getElem?_eq_none (by simp; omega), List.getElem?_eq_none (by omega)]; rfl
theorem rowS_goes {ds : List Dd} {σ : List Nat} (h : Goes (rowS ds) [] [] σ) : σ = List.range ds.length := by
  have hlt : ∀ k ∈ σ, k < ds.length := fun k hk => by have := (h.lt k hk).1; rwa [rowS_len] at this
  refine sorted_uniq _ _ ?_ List.pairwise_lt_range (fun x => ?_)
  · have h1 := List.pairwise_and_iff.2 ⟨h.row, h.nodup⟩
    refine List.Pairwise.imp_of_mem (fun {a b} ha hb hab => ?_) h1
    have hal := hlt a ha
    have hbl := hlt b hb
    have h2 := hab.1
    unfold late at h2
    rw [rowS_at hal, rowS_at hbl] at h2
    have h3 := hab.2
    dsimp only at h2
    omega
  · rw [List.mem_range]
    constructor
    · exact hlt x
    · intro hx
      have := h.all x (by rw [rowS_len]; exact hx) (by rw [rowS_at hx]; dsimp only; omega)
      exact this.resolve_left (by simp)
theorem rowS_row (ds : List Dd) : (List.range ds.length).Pairwise fun a b => ¬ late (rowS ds) b a := by
  refine List.Pairwise.imp_of_mem (fun {a b} ha hb hab => ?_) List.pairwise_lt_range
  unfold late
  rw [rowS_at (List.mem_range.1 ha), rowS_at (List.mem_range.1 hb)]
  dsimp only; omega
theorem row_yes {ds : List Dd} (hf : ∀ d ∈ ds, Fine d) (hl : ds.length ≤ 40) (h : okL [] ds) : lineE (rowS ds) = 0 ∧ lineO (rowS ds) = List.range ds.length := by
  have hv := rowS_may hf hl
  have hg : Goes (rowS ds) [] [] (List.range ds.length) := ⟨fun k hk => ⟨by rw [rowS_len]; exact List.mem_range.1 hk, by simp⟩, List.nodup_range, by rw [rowS_deeds]; exact h, (fun _ _ j hj => by cases hj), rowS_row ds, fun i hi _ => .inr (List.mem_range.2 (by rwa [rowS_len] at hi))⟩
  obtain ⟨r, hr, hg2⟩ := lineT_some hv hg
  obtain rfl := rowS_goes hg2
  exact lineE_yes (chk_may (by rw [rowS_len]; omega) hv) hr
theorem row_no {ds : List Dd} (hf : ∀ d ∈ ds, Fine d) (hl : ds.length ≤ 40) (h : ¬ okL [] ds) : lineE (rowS ds) = 270 ∧ lineO (rowS ds) = [] := by
  have hv := rowS_may hf hl
  refine lineE_no (chk_may (by rw [rowS_len]; omega) hv) ?_
  cases hr : lineT (rowS ds) with
  | none => rfl
  | some r =>
    have hg := lineT_goes hv hr
    obtain rfl := rowS_goes hg
    have := hg.plays
    rw [rowS_deeds] at this
    exact absurd this h
/-- deeds that play, each begun earlier and ended later than its time -/
structure Shk (b : Int) (row : List Sp) (S : List Ob) (ats : List Int) : Prop where
  len : ats.length = row.length
  up : ats.Pairwise (· < ·)
  lt : ∀ x ∈ ats, x < b
  ok : okL [] (row.map fun x => x.1)
  st : S = (row.map fun x => x.1).foldl doS []
  in_ : ∀ (k : Nat) (x : Sp) (t : Int), row[k]? = some x → ats[k]? = some t → 0 ≤ x.2.1 ∧ x.2.1 ≤ t ∧ t ≤ x.2.2 ∧ x.2.2 ≤ 1000 ∧ Fine x.1
theorem okL_add : ∀ (ds : List Dd) (S : List Ob) (d : Dd), okL S ds → doE (ds.foldl doS S) d = 0 → okL S (ds ++ [d])
  | [], S, d, _, h => ⟨h, trivial⟩
  | x :: ds, S, d, h, hd => ⟨h.1, okL_add ds _ d h.2 hd⟩
theorem Shk.nil : Shk 20 [] [] [] := ⟨rfl, by simp, by simp, trivial, rfl, by simp⟩
theorem Shk.skip {b b' : Int} {row : List Sp} {S : List Ob} {ats : List Int} (h : Shk b row S ats) (hb : b ≤ b') : Shk b' row S ats := { h with lt := fun x hx => by have := h.lt x hx; omega }
theorem doE_fin {S : List Ob} {d : Dd} (h : doE S d = 0) : Fine d := by
  unfold doE at h
  split at h
  · cases h
  · rename_i h1
    refine ⟨by omega, by omega, fun h2 => ?_⟩
    exact Classical.byContradiction fun h3 => h1 (.inr (.inr ⟨h2, h3⟩))
theorem Shk.add {b : Int} {row : List Sp} {S : List Ob} {ats : List Int} (h : Shk b row S ats) {d : Dd} {n : Int} (hd : doE S d = 0) (hb : 20 ≤ b) (hb2 : b ≤ 200) (h0 : 0 ≤ n) (h1 : n < 20) :
    Shk (b + 3) (row ++ [(d, b - n, b + n / 2)]) (doS S d) (ats ++ [b]) := by
  have hl := h.len
  refine ⟨by simp [hl], ?_, ?_, ?_, ?_, ?_⟩
  · rw [List.pairwise_append]
    exact ⟨h.up, by simp, fun x hx y hy => by
      obtain rfl : y = b := by simpa using hy
      exact h.lt x hx⟩
  · intro x hx
    rcases List.mem_append.1 hx with h2 | h2
    · have := h.lt x h2; omega
    · obtain rfl : x = b := by simpa using h2
      omega
  · rw [List.map_append]
    exact okL_add _ _ _ h.ok (by rw [← h.st]; exact hd)
  · rw [List.map_append, List.foldl_append, ← h.st]; rfl
  · intro k x t hx ht
    by_cases hk : k < row.length
    · rw [List.getElem?_append_left hk] at hx
      rw [List.getElem?_append_left (by omega)] at ht
      exact h.in_ k x t hx ht
    · have hkl := (List.getElem?_eq_some_iff.1 hx).1
      simp at hkl
      obtain rfl : k = row.length := by omega
      rw [List.getElem?_append_right (Nat.le_refl _), Nat.sub_self] at hx
      rw [List.getElem?_append_right (by omega), hl, Nat.sub_self] at ht
      obtain rfl : (d, b - n, b + n / 2) = x := by simpa using hx
      obtain rfl : b = t := by simpa using ht
      exact ⟨by dsimp only; omega, by dsimp only; omega, by dsimp only; omega, by dsimp only; omega, doE_fin hd⟩
theorem range_deeds (row : List Sp) : ((List.range row.length).map fun k => (sp row k).1) = row.map fun x => x.1 := by
  refine List.ext_getElem? fun i => ?_
  rw [List.getElem?_map, List.getElem?_map]
  by_cases hi : i < row.length
  · rw [List.getElem?_range hi, List.getElem?_eq_getElem hi, Option.map_some, Option.map_some, sp_at (List.getElem?_eq_getElem hi)]
  · rw [List.getElem?_eq_none (by simp; omega), List.getElem?_eq_none (by omega)]; rfl
theorem shaken {b : Int} {row : List Sp} {S : List Ob} {ats : List Int} (h : Shk b row S ats) (hl : row.length ≤ 40) : lineE row = 0 ∧ (lineO row).length = row.length := by
  have at_ : ∀ k, k < row.length → ∃ t, ats[k]? = some t ∧ 0 ≤ (sp row k).2.1 ∧ (sp row k).2.1 ≤ t ∧ t ≤ (sp row k).2.2 ∧ (sp row k).2.2 ≤ 1000 ∧ Fine (sp row k).1 := fun k hk => by
    have hx := List.getElem?_eq_getElem hk
    have ht := List.getElem?_eq_getElem (show k < ats.length by rw [h.len]; exact hk)
    rw [sp_at hx]
    exact ⟨_, ht, h.in_ k _ _ hx ht⟩
  have hv : AllMay row := fun k hk => by
    obtain ⟨t, -, h1, h2, h3, h4, h5⟩ := at_ k hk
    exact ⟨h5.1, h5.2.1, h5.2.2, h1, by omega, by omega, .inr (by omega)⟩
  have hg : Goes row [] [] (List.range row.length) := by
    refine ⟨fun k hk => ⟨List.mem_range.1 hk, by simp⟩, List.nodup_range, by rw [range_deeds]; exact h.ok, (fun _ _ j hj => by cases hj), ?_, fun i hi _ => .inr (List.mem_range.2 hi)⟩
    refine List.Pairwise.imp_of_mem (fun {a c} ha hc hac => ?_) List.pairwise_lt_range
    have ha' := List.mem_range.1 ha
    have hc' := List.mem_range.1 hc
    obtain ⟨t, ht, a1, a2, a3, a4, -⟩ := at_ a ha'
    obtain ⟨u, hu, b1, b2, b3, b4, -⟩ := at_ c hc'
    have htu : t < u := by
      obtain ⟨q1, rfl⟩ := List.getElem?_eq_some_iff.1 ht
      obtain ⟨q2, rfl⟩ := List.getElem?_eq_some_iff.1 hu
      exact List.pairwise_iff_getElem.1 h.up a c q1 q2 hac
    unfold late; omega
  obtain ⟨r, hr, hg2⟩ := lineT_some hv hg
  obtain ⟨h1, h2⟩ := lineE_yes (chk_may (by omega) hv) hr
  refine ⟨h1, ?_⟩
  rw [h2]
  have h3 := nodup_len _ _ hg2.nodup (fun j hj => (hg2.lt j hj).1)
  have h4 := nodup_sub (List.range row.length) r List.nodup_range (fun i hi => by
    have hi' := List.mem_range.1 hi
    obtain ⟨t, -, c1, c2, c3, -⟩ := at_ i hi'
    exact (hg2.all i hi' (by omega)).resolve_left (by simp))
  rw [List.length_range] at h4
  omega
end Go.Proofs.Ythmkmjoeceghiaa
