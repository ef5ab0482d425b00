/- A drawn region whose operations only read and make memory: each leaves what it promises, in whatever order. -/
import Derived.Test.YtdjhkiahpidldaaAB
namespace Go.Proofs.Ytdjhkiahpidldaa
open Go.RowKit

/-- slot k is v -/
def upd (u : Nat → Value) (k : Nat) (v : Value) : Nat → Value := fun j => if j = k then v else u j
theorem upd_same (u : Nat → Value) (k : Nat) (v : Value) : upd u k v k = v := if_pos rfl
theorem upd_other {u : Nat → Value} {j k : Nat} {v : Value} (h : j ≠ k) : upd u k v j = u j := if_neg h
theorem filter_lt {α : Type} {p q : α → Bool} : ∀ {l : List α}, (∀ x ∈ l, p x = true → q x = true) → (∃ x ∈ l, q x = true ∧ p x = false) → (l.filter p).length < (l.filter q).length
  | [], _, h => by obtain ⟨x, hx, _⟩ := h; cases hx
  | y :: l, hpq, h => by
    have le : (l.filter p).length ≤ (l.filter q).length := by
      rw [← List.countP_eq_length_filter, ← List.countP_eq_length_filter]
      exact List.countP_mono_left fun x hx hp => hpq x (by simp [hx]) hp
    obtain ⟨x, hx, hq, hp⟩ := h
    rcases List.mem_cons.1 hx with rfl | hx
    · rw [List.filter_cons_of_neg (by simp [hp]), List.filter_cons_of_pos hq, List.length_cons]; omega
    · have ih := filter_lt (fun x hx => hpq x (by simp [hx])) ⟨x, hx, hq, hp⟩
      rw [List.filter_cons, List.filter_cons]
      by_cases hy : p y = true
      · rw [if_pos hy, if_pos (hpq y (by simp) hy), List.length_cons, List.length_cons]; omega
      · rw [if_neg hy]
        split
        · rw [List.length_cons]; omega
        · exact ih
/-- how many are not listed -/
def unl (m : Nat) (L : Array Bool) : Nat := ((List.range m).filter fun i => !(L.getD i false)).length
section
variable {P : Program} {Q : Exit → Act → World → Prop} {md : Region.Mode}
/-- the state: what is listed keeps its promise -/
def MkAt (F : (Nat → Value) → Act) (dst : Nat → Nat) (p : Nat → Value → World → Prop) (w0 : World) (m : Nat) (L : Array Bool) (a : Act) (w : World) : Prop :=
  ∃ u, a = F u ∧ Below w0.heap.size w0 w ∧ ∀ i, i < m → L.getD i false = true → p i (u (dst i)) w
theorem any_makers {l : List Oper} {m : Nat} (hm : l.length = m) (F : (Nat → Value) → Act) (dst : Nat → Nat) (p : Nat → Value → World → Prop) (w0 : World)
    (hdep : ∀ i o, nth l i = some o → ∀ e ∈ o.after, e.on < i)
    (hinj : ∀ i j, i < m → j < m → dst i = dst j → i = j)
    (hmono : ∀ i v w w', p i v w → Below w.heap.size w w' → p i v w')
    (hstep : ∀ i o, nth l i = some o → ∀ u w, Below w0.heap.size w0 w → (∀ e ∈ o.after, Region.binds md e = true → p e.on (u (dst e.on)) w) →
      ∀ K' : Act → World → Prop, Shut (∀ v w', Below w.heap.size w w' → p i v w' → K' (F (upd u (dst i) v)) w') →
        if Region.wanted o (yielded l.toArray (F u).tmps) = true then Oper.wp P o (F u) w K' Q else K' ((F u).put o.dst undef) w)
    (hend : ∀ u w, Below w0.heap.size w0 w → (∀ i, i < m → p i (u (dst i)) w) → Q .normal (F u) w) :
    ∀ (n : Nat) (L : Array Bool) (a : Act) (w : World), L.size = m → unl m L ≤ n → MkAt F dst p w0 m L a w → wpAny P md l.toArray Q n L a w := by
  have hsz : l.toArray.size = m := by simp [hm]
  have all : ∀ L : Array Bool, L.size = m → Region.ready md l.toArray L = [] → ∀ i, i < m → L.getD i false = true := fun L hL hr => by
    intro i
    induction i using Nat.strongRecOn with
    | _ i ih =>
      intro hi
      cases h : L.getD i false with
      | true => rfl
      | false =>
        exfalso
        have ho : ∃ o, nth l i = some o := by
          rw [← nth_at]; exact ⟨_, List.getElem?_eq_getElem (by omega)⟩
        obtain ⟨o, ho⟩ := ho
        have : i ∈ Region.ready md l.toArray L := mem_ready.2 ⟨by
          have hiL : i < L.size := by omega
          simp [hiL] at h ⊢; exact h, o, at_nth ho, fun e he hb => ih e.on (hdep i o ho e he) (by have := hdep i o ho e he; omega)⟩
        rw [hr] at this; cases this
  have fin : ∀ L a w, L.size = m → Region.ready md l.toArray L = [] → MkAt F dst p w0 m L a w → Q .normal a w := fun L a w hL hr hM => by
    obtain ⟨u, rfl, hb, hp⟩ := hM
    exact hend u w hb fun i hi => hp i hi (all L hL hr i hi)
  intro n
  induction n with
  | zero =>
    intro L a w hL hu hM
    have hr : Region.ready md l.toArray L = [] := by
      rw [List.eq_nil_iff_forall_not_mem]
      intro i hi
      obtain ⟨h0, o, ho, _⟩ := mem_ready.1 hi
      have hi' : i < m := by have := (Array.getElem?_eq_some_iff.1 ho).1; omega
      have : i ∈ (List.range m).filter fun i => !(L.getD i false) := List.mem_filter.2 ⟨List.mem_range.2 hi', by
        have hiL : i < L.size := by omega
        simp [hiL] at h0 ⊢; exact h0⟩
      have h1 := List.length_pos_of_mem this
      unfold unl at hu; omega
    exact ⟨hr, fin L a w hL hr hM⟩
  | succ n ih =>
    intro L a w hL hu hM
    refine ⟨fun hr => fin L a w hL hr hM, fun i hi => ?_⟩
    obtain ⟨h0, o, ho, hdeps⟩ := mem_ready.1 hi
    have hi' : i < m := by have := (Array.getElem?_eq_some_iff.1 ho).1; omega
    have hiL : i < L.size := by omega
    have hLi : L.getD i false = false := by simp [hiL] at h0 ⊢; exact h0
    have hon : nth l i = some o := by rw [← nth_at]; simpa using ho
    obtain ⟨u, rfl, hb, hp⟩ := hM
    refine wpOp_step ho fun K' hK => ?_
    refine hstep i o hon u w hb (fun e he hbd => hp e.on (by have := hdep i o hon e he; omega) (hdeps e he hbd)) K' (fun v w' hw' hv => hK _ _ ?_)
    refine ih (L.setIfInBounds i true) _ _ (by simpa using hL) ?_ ⟨upd u (dst i) v, rfl, hb.trans (hw'.mono hb.size), fun j hj hjL => ?_⟩
    · have : unl m (L.setIfInBounds i true) < unl m L := filter_lt (fun x _ hx => by
        by_cases e : i = x
        · subst e; simp [hiL] at hx
        · rw [getD_set_ne false e] at hx; exact hx) ⟨i, List.mem_range.2 hi', by rw [hLi]; rfl, by simp [hiL]⟩
      omega
    · by_cases e : j = i
      · subst e; rw [upd_same]; exact hv
      · rw [getD_set_ne false (Ne.symm e)] at hjL
        rw [upd_other (fun h => e (hinj j i hj hi' h))]
        exact hmono j _ w w' (hp j hj hjL) hw'
theorem region_makers {id : Nat} {l : List Oper} {m : Nat} (hm : l.length = m) (F : (Nat → Value) → Act) (dst : Nat → Nat) (p : Nat → Value → World → Prop) (u0 : Nat → Value) {a : Act} {w : World} (hF : P.follows .mixedOrders = true) (ha : a = F u0)
    (hdep : ∀ i o, nth l i = some o → ∀ e ∈ o.after, e.on < i)
    (hinj : ∀ i j, i < m → j < m → dst i = dst j → i = j)
    (hmono : ∀ i v w w', p i v w → Below w.heap.size w w' → p i v w')
    (hstep : ∀ i o, nth l i = some o → ∀ u w1, Below w.drew.heap.size w.drew w1 → (∀ e ∈ o.after, Region.binds .any e = true → p e.on (u (dst e.on)) w1) →
      ∀ K' : Act → World → Prop, Shut (∀ v w', Below w1.heap.size w1 w' → p i v w' → K' (F (upd u (dst i) v)) w') →
        if Region.wanted o (yielded l.toArray (F u).tmps) = true then Oper.wp P o (F u) w1 K' Q else K' ((F u).put o.dst undef) w1)
    (hend : ∀ u w1, Below w.drew.heap.size w.drew w1 → (∀ i, i < m → p i (u (dst i)) w1) → Q .normal (F u) w1) : (Code.region id l.toArray true).wp P Q a w := by
  refine wp_region_any hF ?_
  refine any_makers hm F dst p w.drew hdep hinj hmono hstep hend _ _ _ _ (by simp [hm]) ?_ ⟨u0, ha, Below.refl _ _, fun i hi h => ?_⟩
  · unfold unl
    refine Nat.le_trans (List.length_filter_le _ _) (by simp [hm])
  · simp [hm, hi] at h
end
/-- each operation, by its number -/
def Each (S : Nat → Oper → Prop) : List Oper → Nat → Prop
  | [], _ => True
  | o :: l, i => S i o ∧ Each S l (i + 1)
theorem each_nth {S : Nat → Oper → Prop} : ∀ (l : List Oper) (k : Nat), Each S l k → ∀ i o, nth l i = some o → S (k + i) o
  | [], _, _, i, o, h => by simp [nth] at h
  | x :: l, k, hE, 0, o, h => by
    obtain rfl : x = o := by simpa [nth] using h
    exact hE.1
  | x :: l, k, hE, i + 1, o, h => by
    have := each_nth l (k + 1) hE.2 i o (by simpa [nth] using h)
    rwa [show k + (i + 1) = k + 1 + i by omega]
def depB : List Oper → Nat → Bool
  | [], _ => true
  | o :: l, i => o.after.all (fun e => decide (e.on < i)) && depB l (i + 1)
theorem depB_spec : ∀ (l : List Oper) (k : Nat), depB l k = true → ∀ i o, nth l i = some o → ∀ e ∈ o.after, e.on < k + i
  | [], _, _, i, o, h => by simp [nth] at h
  | x :: l, k, hE, 0, o, h => by
    obtain rfl : x = o := by simpa [nth] using h
    unfold depB at hE
    rw [Bool.and_eq_true] at hE
    intro e he
    have := (Array.all_eq_true_iff_forall_mem.1 hE.1) e he
    simpa using this
  | x :: l, k, hE, i + 1, o, h => by
    unfold depB at hE
    rw [Bool.and_eq_true] at hE
    have := depB_spec l (k + 1) hE.2 i o (by simpa [nth] using h)
    intro e he
    have := this e he
    omega
/-- an operation that yields -/
theorem step_val {P : Program} {Q : Exit → Act → World → Prop} {ops : Array Oper} {o : Oper} {a : Act} {w w' : World} {K : Act → World → Prop} {E : Prop} {v : Value} (hgd : o.guard = none) (hr : (execOp a.eval o).run P w = .ok (.value v) w') (h : K (a.put o.dst v) w') :
    if Region.wanted o (yielded ops a.tmps) = true then Oper.wp P o a w K Q else E := by
  have hw : Region.wanted o (yielded ops a.tmps) = true := by simp [Region.wanted, hgd]
  rw [if_pos hw]
  unfold Oper.wp
  rw [hr]
  exact h
/-- the law in one: no guards, each operation yields -/
theorem region_made {P : Program} {Q : Exit → Act → World → Prop} {id : Nat} {l : List Oper} {m : Nat} (hm : l.length = m) (F : (Nat → Value) → Act) (dst : Nat → Nat) (p : Nat → Value → World → Prop) (u0 : Nat → Value) {a : Act} {w : World} (hF : P.follows .mixedOrders = true) (ha : a = F u0)
    (hdep : depB l 0 = true)
    (hinj : ∀ i j, i < m → j < m → dst i = dst j → i = j)
    (hmono : ∀ i v w w', p i v w → Below w.heap.size w w' → p i v w')
    (hput : ∀ u i v, (F u).put (some (dst i)) v = F (upd u (dst i) v))
    (hdst : Each (fun i o => o.dst = some (dst i) ∧ o.guard = none) l 0)
    (hstep : Each (fun i o => ∀ u w1, Below w.drew.heap.size w.drew w1 → (∀ e ∈ o.after, Region.binds .any e = true → p e.on (u (dst e.on)) w1) →
      ∃ v w', (execOp (F u).eval o).run P w1 = .ok (.value v) w' ∧ Below w1.heap.size w1 w' ∧ p i v w') l 0)
    (hend : ∀ u w1, Below w.drew.heap.size w.drew w1 → (∀ i, i < m → p i (u (dst i)) w1) → Q .normal (F u) w1) : (Code.region id l.toArray true).wp P Q a w := by
  refine region_makers hm F dst p u0 hF ha (fun i o h => by have := depB_spec l 0 hdep i o h; simpa using this) hinj hmono (fun i o ho u w1 hb hd K hK => ?_) hend
  have h1 := each_nth l 0 hdst i o ho
  have h2 := each_nth l 0 hstep i o ho
  rw [Nat.zero_add] at h1 h2
  obtain ⟨v, w', hr, hb', hp⟩ := h2 u w1 hb hd
  refine step_val h1.2 hr ?_
  rw [h1.1, hput]
  exact hK _ _ hb' hp
end Go.Proofs.Ytdjhkiahpidldaa
