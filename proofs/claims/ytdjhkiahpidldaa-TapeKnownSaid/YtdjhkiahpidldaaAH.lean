/- TapeKnown: the fourteen bad scripts; what each operation of their region promises. -/
import Derived.Test.YtdjhkiahpidldaaAF
namespace Go.Proofs.Ytdjhkiahpidldaa
open Go.RowKit

/-- the slots ks hold u -/
def slotF (a : Act) (ks : List Nat) (u : Nat → Value) : Act := ks.foldl (fun a k => a.put (some k) (u k)) a
theorem slotF_size : ∀ (ks : List Nat) (a : Act) (u : Nat → Value), (slotF a ks u).tmps.size = a.tmps.size
  | [], _, _ => rfl
  | k :: ks, a, u => by
    rw [show slotF a (k :: ks) u = slotF (a.put (some k) (u k)) ks u from rfl, slotF_size ks]
    simp [Act.put]
theorem slotF_defers : ∀ (ks : List Nat) (a : Act) (u : Nat → Value), (slotF a ks u).defers = a.defers
  | [], _, _ => rfl
  | k :: ks, a, u => by
    rw [show slotF a (k :: ks) u = slotF (a.put (some k) (u k)) ks u from rfl, slotF_defers ks]
    rfl
theorem slotF_get : ∀ (ks : List Nat) (a : Act) (u : Nat → Value) (j : Nat), (slotF a ks u).tmps[j]? = if j ∈ ks ∧ j < a.tmps.size then some (u j) else a.tmps[j]?
  | [], _, _, _ => by simp [slotF]
  | k :: ks, a, u, j => by
    rw [show slotF a (k :: ks) u = slotF (a.put (some k) (u k)) ks u from rfl, slotF_get ks]
    have hp : (a.put (some k) (u k)).tmps = a.tmps.setIfInBounds k (u k) := rfl
    rw [hp, Array.size_setIfInBounds, Array.getElem?_setIfInBounds]
    by_cases h1 : j ∈ ks
    · by_cases h2 : j < a.tmps.size
      · simp [h1, h2]
      · simp only [h2, and_false, if_false]
        split
        · subst_vars; simp [h2]
        · rfl
    · by_cases h3 : j = k
      · subst h3
        by_cases h2 : j < a.tmps.size <;> simp [h1, h2]
      · simp [h1, h3, Ne.symm h3]
theorem slotF_in {ks : List Nat} {a : Act} {u : Nat → Value} {j : Nat} (h : ks.contains j = true) (hs : j < a.tmps.size) : (slotF a ks u).tmps[j]?.getD undef = u j := by
  rw [slotF_get, if_pos ⟨by simpa using h, hs⟩]; rfl
theorem slotF_out {ks : List Nat} {a : Act} {u : Nat → Value} {j : Nat} (h : ks.contains j = false) : (slotF a ks u).tmps[j]?.getD undef = a.tmps[j]?.getD undef := by
  rw [slotF_get, if_neg fun h2 => by simp at h; exact h h2.1]
theorem slotF_put {ks : List Nat} {a : Act} {u : Nat → Value} {k : Nat} (v : Value) (h : ks.contains k = true) : (slotF a ks u).put (some k) v = slotF a ks (upd u k v) := by
  have hk : k ∈ ks := by simpa using h
  have e1 : ((slotF a ks u).put (some k) v).tmps = (slotF a ks u).tmps.setIfInBounds k v := rfl
  have ht : ((slotF a ks u).put (some k) v).tmps = (slotF a ks (upd u k v)).tmps := by
    apply Array.ext_getElem?
    intro j
    rw [e1, Array.getElem?_setIfInBounds, slotF_get, slotF_get, slotF_size]
    by_cases hj : k = j
    · subst hj
      rw [if_pos rfl]
      by_cases h2 : k < a.tmps.size
      · simp [h2, hk, upd_same]
      · simp [h2]
    · rw [if_neg hj, upd_other (Ne.symm hj)]
  have hd : ((slotF a ks u).put (some k) v).defers = (slotF a ks (upd u k v)).defers := by
    rw [show ((slotF a ks u).put (some k) v).defers = (slotF a ks u).defers from rfl, slotF_defers, slotF_defers]
  cases h1 : (slotF a ks u).put (some k) v
  cases h2 : slotF a ks (upd u k v)
  rw [h1, h2] at ht hd
  cases ht; cases hd; rfl
theorem slotF_init {ks : List Nat} {a : Act} : a = slotF a ks (fun k => a.tmps[k]?.getD undef) := by
  have ht : a.tmps = (slotF a ks (fun k => a.tmps[k]?.getD undef)).tmps := by
    apply Array.ext_getElem?
    intro j
    rw [slotF_get]
    split
    · rename_i h; rw [Array.getElem?_eq_getElem h.2]; rfl
    · rfl
  have hd : a.defers = (slotF a ks (fun k => a.tmps[k]?.getD undef)).defers := (slotF_defers _ _ _).symm
  cases h2 : slotF a ks (fun k => a.tmps[k]?.getD undef)
  rw [h2] at ht hd
  cases a
  cases ht; cases hd; rfl
theorem scr_lists {s : Scr} {c0 c1 : Value} {g n c : Nat} {pv : Value} {w : World} (h : ScrV s (.agg #[c0, c1, .slice (some ⟨g, 0, none⟩) n c, pv]) w) : ListsV s.calls (.slice (some ⟨g, 0, none⟩) n c) w := by
  obtain ⟨cv, pv, e, h1, _⟩ := h
  simp only [Value.agg.injEq, Array.mk.injEq, List.cons.injEq, and_true] at e
  obtain ⟨_, _, rfl, _⟩ := e
  rcases h1 with ⟨h1, _⟩ | h1
  · cases h1
  · exact h1
theorem each_nth0 {S : Nat → Oper → Prop} {l : List Oper} (h : Each S l 0) : ∀ i o, nth l i = some o → S i o := fun i o ho => by have := each_nth l 0 h i o ho; simpa using this
theorem each_cons {S : Nat → Oper → Prop} {o : Oper} {l : List Oper} {n : Nat} (h : S n o) (h2 : Each S l (n + 1)) : Each S (o :: l) n := ⟨h, h2⟩
theorem name_act {P : Program} {c : Code} {Q : Exit → Act → World → Prop} {A : Act} {w : World} (h : ∀ a, a = A → c.wp P Q a w) : c.wp P Q A w := h A rfl
def bads : List Scr := [⟨0, 0, [], []⟩, ⟨1, 1, [], []⟩, ⟨9, 1, List.replicate 9 [], []⟩, ⟨1, 0, [[]], []⟩, ⟨1, 1025, [[]], []⟩, ⟨1, 1, [zl 65], []⟩, ⟨1, 1, [[(14, 0, 0, 0)]], []⟩, ⟨1, 1, [[(-1, 0, 0, 0)]], []⟩,
  ⟨1, 1, [[(0, 256, 0, 0)]], []⟩, ⟨1, 1, [[(0, 0, 65536, 0)]], []⟩, ⟨1, 1, [[(0, 0, 0, -1)]], []⟩, ⟨1, 1, [[]], [256]⟩, ⟨1, 1, [[]], [-1]⟩, ⟨1, 1, [[]], List.replicate 4097 0⟩]
/-- the slice of all -/
def AllV (v : Value) (w : World) : Prop := ∃ G, v = .slice (some ⟨G, 0, none⟩) 14 14 ∧ ∀ (i : Nat) (s : Scr), bads[i]? = some s → ∃ c0 c1 c2 c3, w.cell? ⟨G, i * 4, none⟩ = some c0 ∧ w.cell? ⟨G, i * 4 + 1, none⟩ = some c1 ∧ w.cell? ⟨G, i * 4 + 2, none⟩ = some c2 ∧ w.cell? ⟨G, i * 4 + 3, none⟩ = some c3 ∧ ScrV s (.agg #[c0, c1, c2, c3]) w
inductive Pk where
  | scr (s : Scr)
  | calls (l : List Cl)
  | lists (ll : List (List Cl))
  | picks (xs : List Int)
  | val (v : Value)
  | all
def Pk.ok (v : Value) (w : World) : Pk → Prop
  | .scr s => ScrV s v w
  | .calls l => CallsV l v w
  | .lists ll => ListsV ll v w
  | .picks xs => PicksV xs v w
  | .val x => v = x
  | .all => AllV v w
theorem Pk.below {v : Value} {w w' : World} (hb : Below w.heap.size w w') : ∀ {k : Pk}, k.ok v w → k.ok v w'
  | .scr _, h => ScrV.below h hb
  | .calls _, h => CallsV.below h hb
  | .lists _, h => ListsV.below h hb
  | .picks _, h => PicksV.below h hb
  | .val _, h => h
  | .all, h => by
    obtain ⟨G, e, h⟩ := h
    refine ⟨G, e, fun i s hi => ?_⟩
    obtain ⟨c0, c1, c2, c3, h0, h1, h2, h3, h4⟩ := h i s hi
    exact ⟨c0, c1, c2, c3, below_cell hb (Nat.le_refl _) h0, below_cell hb (Nat.le_refl _) h1, below_cell hb (Nat.le_refl _) h2, below_cell hb (Nat.le_refl _) h3, h4.below hb⟩
/-- what operation i promises -/
def tab (T3 : Nat) : List Pk := [.scr ⟨0, 0, [], []⟩, .scr ⟨1, 1, [], []⟩, .lists (List.replicate 9 []), .scr ⟨9, 1, List.replicate 9 [], []⟩, .val (.pointer (some ⟨T3, 2, none⟩)), .lists [[]], .scr ⟨1, 0, [[]], []⟩, .val (.pointer (some ⟨T3, 2, none⟩)), .lists [[]], .scr ⟨1, 1025, [[]], []⟩, .calls (zl 65), .lists [zl 65], .scr ⟨1, 1, [zl 65], []⟩, .val (.agg #[.int .i64 14, .int .i64 0, .int .i64 0, .int .i64 0]), .calls [(14, 0, 0, 0)], .lists [[(14, 0, 0, 0)]], .scr ⟨1, 1, [[(14, 0, 0, 0)]], []⟩, .val (.agg #[.int .i64 (-1), .int .i64 0, .int .i64 0, .int .i64 0]), .calls [(-1, 0, 0, 0)], .lists [[(-1, 0, 0, 0)]], .scr ⟨1, 1, [[(-1, 0, 0, 0)]], []⟩, .val (.agg #[.int .i64 0, .int .i64 256, .int .i64 0, .int .i64 0]), .calls [(0, 256, 0, 0)], .lists [[(0, 256, 0, 0)]], .scr ⟨1, 1, [[(0, 256, 0, 0)]], []⟩, .val (.agg #[.int .i64 0, .int .i64 0, .int .i64 65536, .int .i64 0]), .calls [(0, 0, 65536, 0)], .lists [[(0, 0, 65536, 0)]], .scr ⟨1, 1, [[(0, 0, 65536, 0)]], []⟩, .val (.agg #[.int .i64 0, .int .i64 0, .int .i64 0, .int .i64 (-1)]), .calls [(0, 0, 0, -1)], .lists [[(0, 0, 0, -1)]], .scr ⟨1, 1, [[(0, 0, 0, -1)]], []⟩, .val (.pointer (some ⟨T3, 2, none⟩)), .lists [[]], .picks [256], .scr ⟨1, 1, [[]], [256]⟩, .val (.pointer (some ⟨T3, 2, none⟩)), .lists [[]], .picks [-1], .scr ⟨1, 1, [[]], [-1]⟩, .val (.pointer (some ⟨T3, 2, none⟩)), .lists [[]], .picks (List.replicate 4097 0), .scr ⟨1, 1, [[]], List.replicate 4097 0⟩, .all, .all]
def pm (T3 : Nat) (i : Nat) (v : Value) (w : World) : Prop := (tab T3)[i]?.elim False (fun k => k.ok v w)
theorem pm_below {T3 : Nat} (i : Nat) (v : Value) (w w' : World) (h : pm T3 i v w) (hb : Below w.heap.size w w') : pm T3 i v w' := by
  unfold pm at h ⊢
  cases e : (tab T3)[i]? with
  | none => rw [e] at h; exact h
  | some k => rw [e] at h; exact Pk.below hb h
def dst11 (i : Nat) : Nat := if i < 46 then 45 + i else 4
def ks11 : List Nat := 4 :: (List.range 46).map (45 + ·)
theorem ks_dst (i : Nat) : ks11.contains (dst11 i) = true := by
  unfold dst11 ks11
  split
  · simp; omega
  · rfl
end Go.Proofs.Ytdjhkiahpidldaa
