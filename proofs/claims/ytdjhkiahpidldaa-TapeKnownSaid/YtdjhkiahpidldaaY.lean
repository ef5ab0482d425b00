/- A region that draws its order, whose last store hits a cell that the region itself reads: the reads are taken first all the same, since the store waits for them. -/
import Derived.Test.YtdjhkiahpidldaaK
import Derived.Deep.RegionHeld3
namespace Go.Proofs.Ytdjhkiahpidldaa
open Go.RowKit

section
variable {P : Program} {ops : Array Oper} {Q : Exit → Act → World → Prop} {md : Region.Mode} {B : World → Prop} {s : Nat}

/-- Whatever order is picked; behind each operation but number s, B holds. -/
def wpTill (P : Program) (md : Region.Mode) (ops : Array Oper) (Q : Exit → Act → World → Prop) (B : World → Prop) (s : Nat) : Nat → Array Bool → Act → World → Prop
  | 0, L, a, w => Region.ready md ops L = [] ∧ Q .normal a w
  | n + 1, L, a, w => (Region.ready md ops L = [] → Q .normal a w) ∧ ∀ i ∈ Region.ready md ops L, wpOp P ops Q i (fun a' w' => (i ≠ s → B w') ∧ wpTill P md ops Q B s n (L.setIfInBounds i true) a' w') a w

theorem wpAny_of_till : ∀ (n : Nat) (L : Array Bool) (a : Act) (w : World), wpTill P md ops Q B s n L a w → wpAny P md ops Q n L a w
  | 0, _, _, _, h => h
  | n + 1, _, _, _, h => ⟨h.1, fun i hi => wpOp_mono (fun a' w' h' => wpAny_of_till n _ a' w' h'.2) (h.2 i hi)⟩

/-- the numbers in C wait for i, each by a step -/
def Waits (md : Region.Mode) (ops : Array Oper) (i : Nat) (C : List Nat) : Prop := ∀ c ∈ C, ∀ o, ops[c]? = some o → ∃ e ∈ o.after, Region.binds md e = true ∧ (e.on = i ∨ e.on ∈ C)

theorem till_first {i : Nat} {oi : Oper} {v : Value} {C : List Nat} (hi : ops[i]? = some oi) (hsel : ∀ (j : Nat) (o : Oper) cs b, ops[j]? = some o → o.op ≠ .select cs b)
    (hQ : ∀ c a w, Q (.panic c) (a.put oi.dst v) w → Q (.panic c) a w) (hW : Waits md ops i C) (hs : s ∈ C) :
    ∀ (n : Nat) (L : Array Bool) (a : Act) (w : World), (∀ c ∈ C, L.getD c false = false) →
      (∀ j oj, ops[j]? = some oj → j ≠ i → L.getD j true = false → (∀ e ∈ oj.after, Region.binds md e = true → e.on ≠ i) → oi.apart ops oj = true) →
      i ∈ Region.ready md ops L → YieldsIf P ops B oi v a → B w →
      wpTill P md ops Q B s n (L.setIfInBounds i true) (a.put oi.dst v) w → wpTill P md ops Q B s (n + 1) L a w := by
  intro n
  induction n with
  | zero =>
    intro L a w _ _ hr hy hB H
    refine ⟨fun h => (by rw [h] at hr; cases hr), fun j hj => ?_⟩
    by_cases e : j = i
    · subst e; exact hy.wpOp hi hB ⟨fun _ => hB, H⟩
    · have := ready_mono hj e
      rw [H.1] at this
      cases this
  | succ n ih =>
    intro L a w hC hfree hr hy hB H
    refine ⟨fun h => (by rw [h] at hr; cases hr), fun j hj => ?_⟩
    by_cases e : j = i
    · subst e; exact hy.wpOp hi hB ⟨fun _ => hB, H⟩
    · have h1 := H.2 j (ready_mono hj e)
      obtain ⟨hun, oj, hoj, hall⟩ := mem_ready.1 hj
      have hLi : L.getD i false = false := by
        have h0 := (mem_ready.1 hr).1
        rcases Nat.lt_or_ge i L.size with h' | h'
        · simp [h'] at h0 ⊢; exact h0
        · simp [Array.getElem?_eq_none h'] at h0
      have hno : ∀ x ∈ oj.after, Region.binds md x = true → x.on ≠ i := fun x hx hb heq => by
        have := hall x hx hb
        rw [heq, hLi] at this
        cases this
      have hjC : j ∉ C := fun hjC => by
        obtain ⟨x, hx, hb, h2⟩ := hW j hjC oj hoj
        rcases h2 with h2 | h2
        · exact hno x hx hb h2
        · have := hall x hx hb
          rw [hC _ h2] at this
          cases this
      have hjs : j ≠ s := fun h => hjC (h ▸ hs)
      have h2 := wpOp_putIf hoj (hfree j oj hoj e hun hno) (fun cs b => hsel i oi cs b hi) (fun cs b => hsel j oj cs b hoj) hQ hy h1
      have hfree' : ∀ k ok, ops[k]? = some ok → k ≠ i → (L.setIfInBounds j true).getD k true = false → (∀ x ∈ ok.after, Region.binds md x = true → x.on ≠ i) → oi.apart ops ok = true := fun k ok hk hki hk' hn => by
        refine hfree k ok hk hki ?_ hn
        by_cases hjk : j = k
        · subst hjk; exact hun
        · rw [getD_set_ne true hjk] at hk'; exact hk'
      refine wpOp_mono (fun a' w' h3 => ⟨h3.2.1, ih (L.setIfInBounds j true) a' w' (fun c hc => ?_) hfree' (ready_mono hr (Ne.symm e)) h3.1 (h3.2.1 hjs) ?_⟩) h2
      · rw [getD_set_ne false (fun h : j = c => hjC (by rw [h]; exact hc))]; exact hC c hc
      · rw [Array.setIfInBounds_comm _ _ e]
        exact h3.2.2

/-- those that wait for i, in rising order -/
def waiters (md : Region.Mode) (ops : Array Oper) (i : Nat) : List Nat :=
  (List.range ops.size).foldl (fun C j => match ops[j]? with | some o => if o.after.any (fun e => Region.binds md e && (e.on == i || C.contains e.on)) then C ++ [j] else C | none => C) []
def waitsB (md : Region.Mode) (ops : Array Oper) (s i : Nat) (L : Array Bool) : Bool :=
  let C := waiters md ops i
  C.contains s && C.all fun c => !(L.getD c false) && match ops[c]? with | some o => o.after.any (fun e => Region.binds md e && (e.on == i || C.contains e.on)) | none => true

def nth : List Oper → Nat → Option Oper
  | [], _ => none
  | o :: _, 0 => some o
  | _ :: l, n + 1 => nth l n
theorem nth_at : ∀ (l : List Oper) (i : Nat), l[i]? = nth l i
  | [], _ => by simp [nth]
  | _ :: _, 0 => rfl
  | _ :: l, n + 1 => by simpa [nth] using nth_at l n
theorem at_nth {l : List Oper} {i : Nat} {o : Oper} (h : nth l i = some o) : l.toArray[i]? = some o := by simpa [nth_at] using h

/-- number i comes first -/
theorem till_take {l : List Oper} {i : Nat} {oi : Oper} {v : Value} {n : Nat} {L : Array Bool} {a : Act} {w : World} (hi : nth l i = some oi)
    (hs : Region.noSelect l.toArray = true) (hf : Region.free md l.toArray L i = true) (hr : (Region.ready md l.toArray L).contains i = true) (hw : waitsB md l.toArray s i L = true)
    (hQ : ∀ c a w, Q (.panic c) (a.put oi.dst v) w → Q (.panic c) a w) (hy : YieldsIf P l.toArray B oi v a) (hB : B w)
    (h : wpTill P md l.toArray Q B s n (L.setIfInBounds i true) (a.put oi.dst v) w) : wpTill P md l.toArray Q B s (n + 1) L a w := by
  unfold waitsB at hw
  simp only [Bool.and_eq_true, List.all_eq_true] at hw
  refine till_first (at_nth hi) (Region.noSelect_spec hs) hQ (C := waiters md l.toArray i) (fun c hc o ho => ?_) (by simpa using hw.1) n L a w (fun c hc => by simpa using (hw.2 c hc).1) (Region.free_spec (at_nth hi) hf) (by simpa using hr) hy hB h
  have := (hw.2 c hc).2
  rw [ho] at this
  simp only [Array.any_eq_true] at this
  obtain ⟨k, hk, hx⟩ := this
  simp only [Bool.and_eq_true, Bool.or_eq_true, beq_iff_eq, List.contains_iff_mem] at hx
  exact ⟨_, Array.getElem_mem hk, hx.1, hx.2⟩

/-- number i alone may come up -/
theorem till_one {l : List Oper} {i : Nat} {o : Oper} {n : Nat} {L : Array Bool} {a : Act} {w : World} (hr : Region.ready md l.toArray L = [i]) (ho : nth l i = some o)
    (h : ∀ K' : Act → World → Prop, Shut (∀ a w, (i ≠ s → B w) → wpTill P md l.toArray Q B s n (L.setIfInBounds i true) a w → K' a w) → if Region.wanted o (yielded l.toArray a.tmps) = true then Oper.wp P o a w K' Q else K' (a.put o.dst undef) w) :
    wpTill P md l.toArray Q B s (n + 1) L a w :=
  ⟨fun h0 => (by rw [hr] at h0; cases h0), fun j hj => by
    rw [hr] at hj
    obtain rfl : j = i := by simpa using hj
    exact wpOp_step (at_nth ho) (fun K' hK => h K' (fun a w h1 h2 => hK a w ⟨h1, h2⟩))⟩

theorem till_done {L : Array Bool} {a : Act} {w : World} (hr : Region.ready md ops L = []) (h : Q .normal a w) : ∀ n, wpTill P md ops Q B s n L a w
  | 0 => ⟨hr, h⟩
  | _ + 1 => ⟨fun _ => h, by rw [hr]; simp⟩

theorem till_start (s : Nat) (B : World → Prop) {id : Nat} {l : List Oper} {a : Act} {w : World} (hm : P.follows .mixedOrders = true)
    (h : wpTill P .any l.toArray Q B s l.toArray.size (Array.replicate l.toArray.size false) a w.drew) : (Code.region id l.toArray true).wp P Q a w :=
  wp_region_any hm (wpAny_of_till _ _ _ _ h)
end
end Go.Proofs.Ytdjhkiahpidldaa
