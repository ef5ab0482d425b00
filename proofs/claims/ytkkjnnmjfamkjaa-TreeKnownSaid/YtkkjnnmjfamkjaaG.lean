/- A range over an iterator that keeps state of its own in a captured variable's cell (block G): the caller's invariant is asked to stand whatever is written there. -/
import Derived.Test.YtkkjnnmjfamkjaaK
import Derived.RangeFuncBox
import Derived.RangeFuncNested
import Derived.RangeFuncBound
import Derived.RangeFuncCalls
import Derived.RangeFuncLeaves
import Derived.Shelf.Abstract
import Derived.Shelf.RegionOpen
import Derived.OwnWalkIn
import Derived.TacticsInMore
import Derived.LoopNIn
import Derived.LoopIn
import Derived.Maps.AppendAt
namespace Go.Proofs.Ytkkjnnmjfamkjaa
open Go.RowKit
variable {F : Fence} {n : Nat} {P : Program}

/-- kept by whatever turns block G or a walk's own record from B on -/
def AbidesG {β : Type} (G B : Nat) (J : β → World → Prop) : Prop :=
  ∀ s W W' row, J s W → W.grownBy W' row → (∀ r, row = some r → r = G ∨ B ≤ r ∧ ∃ o : Obj, W.heap[r]? = some o ∧ o.isWalk = true) → J s W'
/-- kept by whatever turns block G or a block from B on that is no cells -/
def OwnG {β : Type} (G B : Nat) (I : β → World → Prop) : Prop :=
  ∀ s W W' row, I s W → W.grownBy W' row → (∀ r, row = some r → r = G ∨ B ≤ r ∧ ∃ o : Obj, W.heap[r]? = some o ∧ o.isCells = false) → I s W'
theorem OwnG.from {β : Type} {G B : Nat} {I : β → World → Prop} (h : OwnG G B I) : OwnFrom B I := fun s W W' row hs hg hr => h s W W' row hs hg fun r e => .inr (hr r e)
/-- the contract of such an iterator -/
def SeqG {α : Type} (G : Nat) (F : Fence) (n : Nat) (P : Program) (g : Nat) (lb : Array Value) (encs : α → Array Value) (Kp : World → World → Prop) (S Sp : List α → Prop) (N : Nat) (w : World) : Prop :=
  ∀ (l : Nat) (J Jx : List α → World → Prop) (W : World), Below w.heap.size w W → AbidesG G W.heap.size J → AbidesG G W.heap.size Jx →
    (∀ pre x W1, J pre W1 → pre.length < N → YieldAt F (n - 1) P l (encs x) W1 fun e W' =>
      (e = .returned (.bool true) ∧ J (pre ++ [x]) W' ∧ Kp W1 W') ∨ (e = .returned (.bool false) ∧ Jx (pre ++ [x]) W')) →
    J [] W →
    CallsIn F n P g (#[.func (.yield l) #[] #[]] ++ lb) W fun e W' => (∃ v, e = .returned v) ∧ ((∃ xs, S xs ∧ J xs W') ∨ (∃ pre, Sp pre ∧ Jx pre W'))

/-- the loop's two records -/
def Books (L D : Nat) (r : Loop) (W : World) : Prop := W.heap[L]? = some (.loop r) ∧ W.heap[D]? = some (.deferred (some []))
theorem Books.grown {L D G B : Nat} {r : Loop} {W W' : World} {row : Option Nat} (h : Books L D r W) (hg : W.grownBy W' row) (hr : ∀ k, row = some k → k = G ∨ B ≤ k) (hGL : G < L) (hGD : G < D) (hL : L < B) (hD : D < B) : Books L D r W' := by
  have far : ∀ k o, W.heap[k]? = some o → G < k → k < B → W'.heap[k]? = some o := fun k o hk h1 h2 =>
    (hg.block k (Array.getElem?_eq_some_iff.1 hk).1 fun e => by rcases hr k e.symm with h | h <;> omega).trans hk
  exact ⟨far L _ h.1 hGL hL, far D _ h.2 hGD hD⟩
theorem Books.put {L D : Nat} {r r' : Loop} {W : World} (h : Books L D r W) (hne : L ≠ D) : Books L D r' (W.putObj L (.loop r')) :=
  ⟨World.putObj_heap_same (Array.getElem?_eq_some_iff.1 h.1).1, (World.putObj_heap_other (Ne.symm hne)).trans h.2⟩
theorem OwnG.book {β : Type} {G B L D : Nat} {I : β → World → Prop} (h : OwnG G B I) {s : β} {W : World} {r : Loop} (hs : I s W) (hb : Books L D r W) (hL : B ≤ L) (r' : Loop) : I s (W.putObj L (.loop r')) :=
  h s W _ (some L) hs (grownBy_putObj' W L _) fun k e => by cases e; exact .inr ⟨hL, _, hb.1, rfl⟩
theorem rangeG {α : Type} {g : Operand} {ps : Array Tmp} {assign body : Code} {Q : Exit → Act → World → Prop} {a : Act} {w : World}
    (hro : F.round = none) (h1 : 1 ≤ n) {gf : Nat} {lb : Array Value} (hg : a.eval g = .func (.func gf) #[] lb) (hFg : F.fn gf) (eg : ∀ args w, (callFunc gf args).run P w = .ok (.enter gf args) w)
    {encs : α → Array Value} {Kp : World → World → Prop} {S Sp : List α → Prop} {N : Nat} {w0 : World} {G : Nat} (hG : G < w.heap.size) (hseq : SeqG G F (n - 1) P gf lb encs Kp S Sp N w0)
    (hKt : ∀ {A B C : World}, Kp A B → Kp B C → Kp A C) (hKb : ∀ (W : World) (l : Nat) (o o' : Obj), w.heap.size ≤ l → W.heap[l]? = some o → o.isCells = false → o.isWalk = false → Kp W (W.putObj l o')) (hb0 : Below w0.heap.size w0 w) (hps : ∀ x, (encs x).size = ps.size)
    (I : List α → World → Prop) (Ix : Code → List α → World → Prop) (hI : OwnG G w.heap.size I) (hIx : ∀ c, OwnG G w.heap.size (Ix c)) (h0 : I [] w) (a₁ : α → Act)
    (hassign : ∀ (l : Nat) (x : α) (W : World) (K : Act → World → Prop), K (a₁ x) W →
      assign.wpIn (F.inRound l) (n - 1 - 1) P (Exit.then K (fun _ _ _ => False)) { tmps := (ps.zip (encs x)).foldl (fun t (p, v) => t.setIfInBounds p v) a.tmps, defers := [] } W)
    (hbody : ∀ (l : Nat) (pre : List α) (x : α) (W : World), I pre W → pre.length < N → body.wpIn (F.inRound l) (n - 1 - 1) P (ownPostG w.heap.size Kp I Ix (pre ++ [x]) W) (a₁ x) W)
    (hdone : ∀ (D : Nat) (xs : List α) (W : World), w.heap.size ≤ D → S xs → I xs W → W.heap[D]? = some (.deferred (some [])) → Q .normal { a with defers := { target := .collected D, args := #[] } :: a.defers } W)
    (hstop : ∀ (D : Nat) (c : Code) (pre : List α) (W : World), w.heap.size ≤ D → Sp pre → Ix c pre W → W.heap[D]? = some (.deferred (some [])) → c.wpIn F n P Q { a with defers := { target := .collected D, args := #[] } :: a.defers } W) :
    (Code.rangeFunc g ps assign body).wpIn F n P Q a w := by
  refine wpIn_rangeFunc fun fn hfn => ?_
  rw [hro]
  obtain ⟨D, hD⟩ : ∃ D, D = w.heap.size := ⟨_, rfl⟩
  let rc : LoopState → Option Code → Loop := fun st pe => { state := st, pending := pe, fn, tmps := a.tmps, params := ps, assign, body, defers := D }
  let W1 := (w.alloc (.deferred (some []))).alloc (.loop (rc .ready none))
  have hs1 : W1.heap.size = D + 2 := by simp [W1, hD]
  have b1 : Books (D + 1) D (rc .ready none) W1 := by
    refine ⟨?_, ?_⟩
    · have := World.alloc_heap_new (w.alloc (.deferred (some []))) (.loop (rc .ready none))
      rw [World.size_alloc, ← hD] at this
      exact this
    · have := World.alloc_heap_new w (.deferred (some []))
      rw [← hD] at this
      exact (heap_alloc_old _ _ (by simp [hD])).trans this
  have i1 : I [] W1 := hI.from.alloc _ (hI.from.alloc _ h0)
  have hb1 : Below w0.heap.size w0 W1 := (hb0.alloc hb0.size _).alloc (by have := hb0.size; simp; omega) _
  refine ⟨D + 1, [{ target := .collected D, args := #[] }], W1, { target := .fn (.func gf) lb, args := #[.func (.yield (D + 1)) #[] #[]] }, W1, gf,
    #[.func (.yield (D + 1)) #[] #[]] ++ lb, W1, ?_, ?_, ?_, ?_, fun _ => h1, ?_⟩
  · subst hD
    exact run_enterLoop_outer _ _ _ _ _
  · simp only [resolve, hg]
    simp [go_sem]
  · intro f' hf'
    simp [Target.leads] at hf'
    subst hf'
    exact hFg
  · simp [invoke, go_sem, eg]
  have stay : ∀ {β : Type} {I' : β → World → Prop} (_ : OwnG G w.heap.size I') {s : β} {A B : World} {row : Option Nat}, I' s A → A.grownBy B row → (∀ r, row = some r → r = G ∨ W1.heap.size ≤ r ∧ ∃ o : Obj, A.heap[r]? = some o ∧ o.isWalk = true) → I' s B := by
    intro β I' hO s A B row hs hgr hr
    refine hO s A B row hs hgr fun r e => ?_
    rcases hr r e with h | ⟨h, o, ho, hw⟩
    · exact .inl h
    · exact .inr ⟨by omega, o, ho, Obj.not_cells_of_walk hw⟩
  have keepB : ∀ {r : Loop} {A B : World} {row : Option Nat}, Books (D + 1) D r A → A.grownBy B row → (∀ k, row = some k → k = G ∨ W1.heap.size ≤ k ∧ ∃ o : Obj, A.heap[k]? = some o ∧ o.isWalk = true) → Books (D + 1) D r B := by
    intro r A B row hB hgr hr
    refine hB.grown (G := G) (B := D + 2) hgr (fun k e => ?_) (by omega) (by omega) (by omega) (by omega)
    rcases hr k e with h | ⟨h, _⟩
    · exact .inl h
    · exact .inr (by omega)
  refine (hseq (D + 1) (fun pre W => I pre W ∧ Books (D + 1) D (rc .ready none) W) (fun pre W => ∃ c, Ix c pre W ∧ Books (D + 1) D (rc .done (some c)) W) W1 hb1
    (fun s A B row hs hgr hr => ⟨stay hI hs.1 hgr hr, keepB hs.2 hgr hr⟩)
    (fun s A B row hs hgr hr => by obtain ⟨c, hc, hbk⟩ := hs; exact ⟨c, stay (hIx c) hc hgr hr, keepB hbk hgr hr⟩) ?_ ⟨i1, b1⟩).mono ?_
  · rintro pre x W ⟨hi, hbk⟩ hlen
    refine ⟨fn, _, assign, body, run_yield (P := P) (args := encs x) hbk.1 (hps x), roundIn_of_wpIn hfn (hassign _ x W _ ⟨_, run_beginRound hbk.1 rfl, ?_⟩)⟩
    have bk2 : Books (D + 1) D { rc .ready none with state := .busy } (W.putObj (D + 1) (.loop { rc .ready none with state := .busy })) := hbk.put (by omega)
    have k2 := hKb W (D + 1) _ (.loop { rc .ready none with state := .busy }) (by omega) hbk.1 rfl rfl
    refine wpIn_mono (hbody _ pre x _ (hI.book hi hbk (by omega) _) hlen) ?_
    intro e a3 W3 hp
    have tail : KeepsFrom w.heap.size (W.putObj (D + 1) (.loop { rc .ready none with state := .busy })) W3 → ∀ jump : Option Code, Books (D + 1) D { rc .ready none with state := .busy } W3 ∧
        (Instr.endRound (D + 1) jump).run P W3 = .ok (.bool jump.isNone) (W3.putObj (D + 1) (.loop (rc (if jump.isNone then .ready else .done) jump))) := fun hk jump => by
      have hB : Books (D + 1) D { rc .ready none with state := .busy } W3 := ⟨hk.same _ _ (by omega) bk2.1 rfl, hk.same _ _ (by omega) bk2.2 rfl⟩
      exact ⟨hB, run_endRound (P := P) jump hB.1⟩
    have jumped : ∀ c, KeepsFrom w.heap.size (W.putObj (D + 1) (.loop { rc .ready none with state := .busy })) W3 → Ix c (pre ++ [x]) W3 → ∃ c', Ix c' (pre ++ [x]) (W3.putObj (D + 1) (.loop (rc .done (some c)))) ∧ Books (D + 1) D (rc .done (some c')) (W3.putObj (D + 1) (.loop (rc .done (some c)))) := fun c hk hi3 =>
      ⟨c, (hIx c).book hi3 (tail hk none).1 (by omega) _, (tail hk none).1.put (by omega)⟩
    cases e with
    | normal =>
      obtain ⟨hk3, kp3, hi3⟩ := hp
      obtain ⟨hB, hr⟩ := tail hk3 none
      exact ⟨_, _, hr, .inl ⟨rfl, ⟨hI.book hi3 hB (by omega) _, hB.put (by omega)⟩, hKt (hKt k2 kp3) (hKb _ _ _ _ (by omega) hB.1 rfl rfl)⟩⟩
    | ret => exact ⟨_, _, (tail hp.1 (some .ret)).2, .inr ⟨rfl, jumped _ hp.1 hp.2⟩⟩
    | exit id => exact ⟨_, _, (tail hp.1 (some (.exit id))).2, .inr ⟨rfl, jumped _ hp.1 hp.2⟩⟩
    | goto t => exact ⟨_, _, (tail hp.1 (some (.goto t))).2, .inr ⟨rfl, jumped _ hp.1 hp.2⟩⟩
    | panic ch => exact hp.elim
    | outgrown => exact hp.elim
  · rintro e W2 ⟨⟨v, rfl⟩, hor⟩
    rcases hor with ⟨xs, hS, hi, hbk⟩ | ⟨pre, hSp, c, hi, hbk⟩
    · exact ⟨none, _, run_endLoop (P := P) hbk.1 (by simp [rc]), hdone _ xs _ (by omega) hS (hI.book hi hbk (by omega) _) ((World.putObj_heap_other (by omega)).trans hbk.2)⟩
    · exact ⟨some c, _, run_endLoop (P := P) hbk.1 (by simp [rc]), hstop _ c pre _ (by omega) hSp ((hIx c).book hi hbk (by omega) _) ((World.putObj_heap_other (by omega)).trans hbk.2)⟩
end Go.Proofs.Ytkkjnnmjfamkjaa
