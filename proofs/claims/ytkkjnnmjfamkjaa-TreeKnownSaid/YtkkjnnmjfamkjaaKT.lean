/- What stays: all blocks but those of some types. -/
import Derived.Test.YtkkjnnmjfamkjaaBL
namespace Go.Proofs.Ytkkjnnmjfamkjaa
open Go.RowKit

/-- each block of w that is not cells of one of these types lies in w' as it lay -/
def KeepT (ts : List TypeId) (w w' : World) : Prop := ∀ (k : Nat) (o : Obj), w.heap[k]? = some o → (∀ cs t fr, o = Obj.cells cs t fr → t ∉ ts) → w'.heap[k]? = some o
theorem KeepT.refl (ts : List TypeId) (w : World) : KeepT ts w w := fun _ _ h _ => h
theorem KeepT.trans {ts : List TypeId} {a b c : World} (h : KeepT ts a b) (k : KeepT ts b c) : KeepT ts a c := fun i o hi ho => k i o (h i o hi ho) ho
theorem KeepT.below {ts : List TypeId} {w w' : World} (h : Below w.heap.size w w') : KeepT ts w w' := fun k o hk _ => (h.block k (Array.getElem?_eq_some_iff.1 hk).1).trans hk
theorem KeepT.grow {ts ts' : List TypeId} {w w' : World} (h : KeepT ts w w') (hs : ∀ t ∈ ts, t ∈ ts') : KeepT ts' w w' := fun k o hk ho => h k o hk fun cs t fr e ht => ho cs t fr e (hs t ht)
theorem KeepT.blk {ts : List TypeId} {w w' : World} (h : KeepT ts w w') {g : Nat} {cs : Array Value} {t : TypeId} (hb : Blk w g cs t) (ht : t ∉ ts) : Blk w' g cs t := h g _ hb fun _ _ _ e => by cases e; exact ht
theorem KeepT.owns {ts : List TypeId} {w w' : World} (h : KeepT ts w w') {base : Nat} {e : TypeId} {size n : Nat} {v : Value} {xs : List Value} (ho : w.ownsRow base e size v n xs) (ht : e ∉ ts) : w'.ownsRow base e size v n xs :=
  owns_of_heap ho fun g hg => by
    rcases ho.2 with ⟨rfl, _⟩ | ⟨g', cap, cur, rfl, _, hh, _⟩
    · simp [Value.ownBlock] at hg
    · obtain rfl : g' = g := by simpa [Value.ownBlock] using hg
      rw [h _ _ hh (fun _ _ _ e => by cases e; exact ht), hh]
/-- a store into a block of one of the types -/
theorem KeepT.set {ts : List TypeId} {w : World} {g : Nat} {cs : Array Value} {t : TypeId} (h : Blk w g cs t) (ht : t ∈ ts) (i : Nat) (v : Value) : KeepT ts w (w.setCell ⟨g, i, none⟩ v) := fun k o hk ho => by
  refine (Below.heap_setCell _ _ _ _ fun e => ?_).trans hk
  have e' : k = g := by simpa using e
  subst e'
  unfold Blk at h
  rw [h] at hk
  cases hk
  exact ho _ _ _ rfl ht
/-- an append to a row of one of the types -/
theorem KeepT.grown {ts : List TypeId} {w w' : World} {base : Nat} {e : TypeId} {size n : Nat} {v : Value} {xs : List Value} (ho : w.ownsRow base e size v n xs) (hg : w.grownBy w' v.ownBlock) (ht : e ∈ ts) : KeepT ts w w' := fun k o hk hk2 => by
  refine (hg.block k (Array.getElem?_eq_some_iff.1 hk).1 fun e' => ?_).trans hk
  rcases ho.2 with ⟨rfl, _⟩ | ⟨g, cap, cur, rfl, _, hh, _⟩
  · simp [Value.ownBlock] at e'
  · obtain rfl : g = k := by simpa [Value.ownBlock] using e'.symm
    rw [hh] at hk
    cases hk
    exact hk2 _ _ _ rfl ht
/-- below base all stays, and of the rest all but blocks of some types -/
structure Step (ts : List TypeId) (base : Nat) (w w' : World) : Prop where
  b : Below base w w'
  k : KeepT ts w w'
theorem Step.refl (ts : List TypeId) (base : Nat) (w : World) : Step ts base w w := ⟨Below.refl _ _, KeepT.refl _ _⟩
theorem Step.trans {ts : List TypeId} {base : Nat} {a b c : World} (h : Step ts base a b) (k : Step ts base b c) : Step ts base a c := ⟨h.b.trans k.b, h.k.trans k.k⟩
theorem Step.below {ts : List TypeId} {base : Nat} {w w' : World} (h : Below w.heap.size w w') (hb : base ≤ w.heap.size) : Step ts base w w' := ⟨h.mono hb, KeepT.below h⟩
end Go.Proofs.Ytkkjnnmjfamkjaa
