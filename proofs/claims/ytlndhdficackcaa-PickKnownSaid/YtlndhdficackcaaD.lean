/- The walks over pick's Next and its reference. -/
import Derived.Test.YtlndhdficackcaaC
namespace Go.Proofs.Ytlndhdficackcaa
open Go.RowKit Go.Shelf
attribute [local go_sem] Oper.semAt_some

/-- what Next answers -/
def nextA (bs : List Bool) (last : Int) : Int := match (tr bs).find? (fun c : Nat => decide (last < (c : Int))) with
  | some c => c
  | none => ((tr bs).head?.getD 0 : Nat)

/-- the first that has come; -1: none -/
def fst (pre : List Nat) : Int := match pre with
  | [] => -1
  | x :: _ => x
theorem fst_snoc (pre : List Nat) (x : Nat) : fst (pre ++ [x]) = if fst pre < 0 then (x : Int) else fst pre := by
  cases pre with
  | nil => simp [fst]
  | cons y r =>
    have h : ¬ fst (y :: r) < 0 := by show ¬ (y : Int) < 0; omega
    rw [if_neg h]; rfl
theorem fst_bd (bs : List Bool) (pre : List Nat) (h : pre <+: tr bs) (hl : bs.length ≤ 17592186044416) : -1 ≤ fst pre ∧ fst pre ≤ 17592186044416 := by
  cases pre with
  | nil => simp [fst]
  | cons y r =>
    have hm : y ∈ tr bs := h.subset (by simp)
    have : y < bs.length := by
      simp only [tr, List.mem_map, List.mem_filter] at hm
      obtain ⟨⟨b, j⟩, ⟨hj, _⟩, rfl⟩ := hm
      have := List.snd_lt_of_mem_zipIdx hj
      simpa using this
    simp only [fst]; omega
theorem find_none_iff (pre : List Nat) (last : Int) (h : ∀ x ∈ pre, (x : Int) ≤ last) : pre.find? (fun c : Nat => decide (last < (c : Int))) = none := by
  rw [List.find?_eq_none]; intro x hx; have := h x hx; simp; omega
theorem next_hit {bs : List Bool} {pre : List Nat} {x : Nat} {last : Int} (h : pre ++ [x] <+: tr bs) (hp : ∀ y ∈ pre, (y : Int) ≤ last) (hx : last < (x : Int)) : nextA bs last = x ∧ pickB bs = true := by
  obtain ⟨r, hr⟩ := h
  constructor
  · unfold nextA
    rw [← hr, List.append_assoc, List.find?_append, find_none_iff pre last hp]
    simp [hx]
  · unfold pickB
    rw [← hr]; simp
theorem next_miss {bs : List Bool} {last : Int} (h : ∀ y ∈ tr bs, (y : Int) ≤ last) : nextA bs last = (if fst (tr bs) < 0 then 0 else fst (tr bs)) ∧ pickB bs = decide (0 ≤ fst (tr bs)) := by
  unfold nextA pickB
  rw [find_none_iff _ last h]
  cases tr bs with
  | nil => simp [fst]
  | cons y r =>
    have h : ¬ fst (y :: r) < 0 := by show ¬ (y : Int) < 0; omega
    have h' : 0 ≤ fst (y :: r) := by omega
    rw [if_neg h]
    exact ⟨rfl, by simp [h']⟩

theorem box_grown {X Y : World} {row : Option Nat} {B : Nat} {t : TypeId} {v : Value} (h : Boxed X B t v) (hg : X.grownBy Y row) (hrow : ∀ r, row = some r → ∃ o : Obj, X.heap[r]? = some o ∧ o.isCells = false) : Boxed Y B t v :=
  h.kept hg (fun e' => by obtain ⟨o, ho, hc⟩ := hrow B e'.symm; rw [show X.heap[B]? = _ from h] at ho; cases ho; cases hc)

/-- between two rounds of Next: its four boxes -/
def NextI (B : Nat) (last : Int) (pre : List Nat) (W : World) : Prop :=
  (Boxed W B 3 (.int .i64 last) ∧ Boxed W (B + 1) 3 (.int .i64 0) ∧ Boxed W (B + 1 + 1) 4 (.bool false) ∧ Boxed W (B + 1 + 1 + 1) 3 (.int .i64 (fst pre))) ∧ ∀ y ∈ pre, (y : Int) ≤ last
/-- a round has returned -/
def NextX (B : Nat) (last : Int) (c : Code) (pre : List Nat) (W : World) : Prop :=
  c = .ret ∧ ∃ (p : List Nat) (x : Nat), pre = p ++ [x] ∧ (∀ y ∈ p, (y : Int) ≤ last) ∧ last < (x : Int) ∧ Boxed W (B + 1) 3 (.int .i64 (x : Int)) ∧ Boxed W (B + 1 + 1) 4 (.bool true)
theorem nextI_own (B : Nat) (last : Int) : Own (NextI B last) := fun s X Y row hs hg hr =>
  ⟨⟨box_grown hs.1.1 hg hr, box_grown hs.1.2.1 hg hr, box_grown hs.1.2.2.1 hg hr, box_grown hs.1.2.2.2 hg hr⟩, hs.2⟩
theorem nextX_own (B : Nat) (last : Int) (c : Code) : Own (NextX B last c) := by
  intro s X Y row hs hg hr
  obtain ⟨h1, p, x, h2, h3, h4, h5, h6⟩ := hs
  exact ⟨h1, p, x, h2, h3, h4, box_grown h5 hg hr, box_grown h6 hg hr⟩

set_option maxRecDepth 100000 in
set_option maxHeartbeats 1000000 in
theorem next_in (bs : List Bool) (a : Option Addr) (cap : Nat) (last : Int) (w : World) (hI : IsSl encB w a bs) (hbs : bs.length ≤ 17592186044416) :
    CallsIn Fence.wide 10 Try.prog 11 #[.slice a bs.length cap, .int .i64 last] w fun e w' => e = .returned (.tuple #[.int .i64 (nextA bs last), .bool (pickB bs)]) ∧ Below w.heap.size w w' := by
  have f20 : Fence.wide.fn 20 := trivial
  have HH := Lib.hid (fun (pre : List Nat) (x : Nat) => next_hit (bs := bs) (pre := pre) (x := x) (last := last))
  have HM := Lib.hid (next_miss (bs := bs) (last := last))
  refine callsIn_of_wp_marks Try.func11 rfl trivial ?_ rfl
  simp only [Try.ntmps11, List.size_toArray, List.length_cons, List.length_nil, Nat.reduceAdd, Nat.reduceSub, Array.replicate_succ, Array.replicate_zero, List.push_toArray, List.append_toArray, List.nil_append, List.cons_append]
  gi_wp2
  refine wpIn_wide.2 (wp_scope_straight ((wpIn_wide (n := 10)).1 ?_))
  gi_wp2
  refine wpIn_wide.2 (wp_label ?_)
  gi_wp2_with (gi_at_call 20; refine (running_in Fence.wide 9 trivial rfl _ _ _ _).mono ?_; rintro e w' ⟨rfl, rfl⟩)
  have b0 := Boxed.new w 3 (.int .i64 last)
  have b1 := Boxed.new (w.alloc (.cells #[.int .i64 last] 3)) 3 (.int .i64 0)
  have b2 := Boxed.new ((w.alloc (.cells #[.int .i64 last] 3)).alloc (.cells #[.int .i64 0] 3)) 4 (.bool false)
  have b3 := Boxed.new (((w.alloc (.cells #[.int .i64 last] 3)).alloc (.cells #[.int .i64 0] 3)).alloc (.cells #[.bool false] 4)) 3 (.int .i64 (-1))
  have b4 := Boxed.new ((((w.alloc (.cells #[.int .i64 last] 3)).alloc (.cells #[.int .i64 0] 3)).alloc (.cells #[.bool false] 4)).alloc (.cells #[.int .i64 (-1)] 3)) 22 (.slice a bs.length cap)
  simp only [World.size_alloc] at b1 b2 b3 b4
  replace b0 := (((b0.alloc (.cells #[.int .i64 0] 3)).alloc (.cells #[.bool false] 4)).alloc (.cells #[.int .i64 (-1)] 3)).alloc (.cells #[.slice a bs.length cap] 22)
  replace b1 := ((b1.alloc (.cells #[.bool false] 4)).alloc (.cells #[.int .i64 (-1)] 3)).alloc (.cells #[.slice a bs.length cap] 22)
  replace b2 := (b2.alloc (.cells #[.int .i64 (-1)] 3)).alloc (.cells #[.slice a bs.length cap] 22)
  replace b3 := b3.alloc (.cells #[.slice a bs.length cap] 22)
  have hB0 : Below w.heap.size w (((((w.alloc (.cells #[.int .i64 last] 3)).alloc (.cells #[.int .i64 0] 3)).alloc (.cells #[.bool false] 4)).alloc (.cells #[.int .i64 (-1)] 3)).alloc (.cells #[.slice a bs.length cap] 22)) := (by repeat (first | exact Below.refl _ _ | assumption | refine Below.setCell ?_ (by first | omega | (simp; done) | (simp; omega)) _ | refine Below.drew ?_ | refine Below.alloc ?_ (by first | omega | (simp; done) | (simp; omega)) _ | refine Below.trans ?_ (Below.mono (by assumption) (by first | omega | (simp; done) | (simp; omega)))))
  refine wpIn_rangeFunc_ownG rfl (by omega) (gf := 23) (lb := #[.pointer (some ⟨w.heap.size + 1 + 1 + 1 + 1, 0, none⟩)]) rfl trivial (enters_of Try.func23 (by kernel_rfl) rfl)
    (run_stops Fence.wide 9 trivial rfl (by omega) (w.heap.size + 1 + 1 + 1 + 1) a cap bs w _ hI hB0 b4.lt b4.cell) belowK_t (belowK_b (by simp; omega)) (Below.refl _ _) (fun _ => rfl)
    (fun pre W => NextI w.heap.size last pre W ∧ Below w.heap.size w W)
    (fun c pre W => NextX w.heap.size last c pre W ∧ Below w.heap.size w W)
    (OwnFrom.and (Own.from (nextI_own _ _) _) (ownFrom_below (Nat.le_refl _) (by simp; omega)))
    (fun c => OwnFrom.and (Own.from (nextX_own _ _ c) _) (ownFrom_below (Nat.le_refl _) (by simp; omega)))
    ⟨⟨⟨b0, b1, b2, b3⟩, by simp⟩, hB0⟩
    (fun x => { tmps := #[.slice a bs.length cap, .int .i64 last, undef, .pointer (some ⟨w.heap.size, 0, none⟩), .pointer (some ⟨w.heap.size + 1, 0, none⟩), .pointer (some ⟨w.heap.size + 1 + 1, 0, none⟩), .pointer (some ⟨w.heap.size + 1 + 1 + 1, 0, none⟩), encN x, .slice a bs.length cap, .func (.func 23) #[] #[.pointer (some ⟨w.heap.size + 1 + 1 + 1 + 1, 0, none⟩)], encN x, undef, undef, undef, undef, undef, undef, undef, undef, undef, undef, undef, undef, undef], defers := [] }) ?assign ?body ?done ?stop
  case assign =>
    intro l x W K hK
    gi_wp2
    exact hK
  case body =>
    rintro l pre x W ⟨⟨⟨c0, c1, c2, c3⟩, hle⟩, hB⟩ hlt
    have q0 := c0.cell
    have q1 := c1.cell
    have q2 := c2.cell
    have q3 := c3.cell
    have f1 := c1.frozen
    have f2 := c2.frozen
    have f3 := c3.frozen
    have HL := Lib.hid hle
    have HF := Lib.hid (fst_snoc pre x)
    clear hle
    by_cases hx : last < (x : Int)
    · gi_wp2
      refine ⟨((KeepsOthers.setCell _ _ _).trans (KeepsOthers.setCell _ _ _)).from _, ⟨rfl, pre, x, rfl, HL.out, hx, ?_, ?_⟩, ?_⟩
      · exact Boxed.other (B' := w.heap.size + 1 + 1) (c1.set _) (by omega) _
      · exact Boxed.set _ (Boxed.other (B' := w.heap.size + 1) c2 (by omega) _)
      · exact (hB.setCell (p := ⟨w.heap.size + 1, 0, none⟩) (by simp) _).setCell (p := ⟨w.heap.size + 1 + 1, 0, none⟩) (by simp; omega) _
    · by_cases hf : fst pre < 0
      · gi_wp2
        refine ⟨(KeepsOthers.setCell _ _ _).from _, (Below.refl _ _).setCell (p := ⟨w.heap.size + 1 + 1 + 1, 0, none⟩) (by simp; omega) _, ⟨⟨c0.other (by omega) _, c1.other (by omega) _, c2.other (by omega) _, ?_⟩, ?_⟩, hB.setCell (p := ⟨w.heap.size + 1 + 1 + 1, 0, none⟩) (by simp; omega) _⟩
        · rw [HF.out, if_pos hf]; exact c3.set _
        · intro y hy
          rcases List.mem_append.1 hy with h | h
          · exact HL.out y h
          · simp at h; omega
      · gi_wp2
        refine ⟨KeepsFrom.refl _ _, Below.refl _ _, ⟨⟨c0, c1, c2, ?_⟩, ?_⟩, hB⟩
        · rw [HF.out, if_neg (by omega)]; exact c3
        · intro y hy
          rcases List.mem_append.1 hy with h | h
          · exact HL.out y h
          · simp at h; omega
  case done =>
    rintro D ys W hD rfl ⟨⟨⟨c0, c1, c2, c3⟩, hle⟩, hB⟩ hK
    have q1 := c1.cell
    have q2 := c2.cell
    have q3 := c3.cell
    have f1 := c1.frozen
    have f2 := c2.frozen
    have hh := Lib.hid (HM.out hle)
    clear hle
    generalize fst (tr bs) = ft at *
    by_cases hf : ft < 0
    · have hh2 := Lib.hid (show (if ft < 0 then (0 : Int) else ft) = 0 from if_pos hf)
      have d1 : Boxed (((W.setCell ⟨w.heap.size + 1, 0, none⟩ (.int .i64 0)).setCell ⟨w.heap.size + 1 + 1, 0, none⟩ (.bool (decide (0 ≤ ft)))).drew) (w.heap.size + 1) 3 (.int .i64 0) := Boxed.other (B' := w.heap.size + 1 + 1) (c1.set _) (by omega) _
      have d2 : Boxed (((W.setCell ⟨w.heap.size + 1, 0, none⟩ (.int .i64 0)).setCell ⟨w.heap.size + 1 + 1, 0, none⟩ (.bool (decide (0 ≤ ft)))).drew) (w.heap.size + 1 + 1) 4 (.bool (decide (0 ≤ ft))) := Boxed.set _ (Boxed.other (B' := w.heap.size + 1) c2 (by omega) _)
      have dK : (((W.setCell ⟨w.heap.size + 1, 0, none⟩ (.int .i64 0)).setCell ⟨w.heap.size + 1 + 1, 0, none⟩ (.bool (decide (0 ≤ ft)))).drew).heap[D]? = some (.deferred (some [])) := ((KeepsOthers.setCell _ _ _).trans (KeepsOthers.setCell _ _ _)).same D _ hK rfl
      have dB : Below w.heap.size w (((W.setCell ⟨w.heap.size + 1, 0, none⟩ (.int .i64 0)).setCell ⟨w.heap.size + 1 + 1, 0, none⟩ (.bool (decide (0 ≤ ft)))).drew) := ((hB.setCell (p := ⟨w.heap.size + 1, 0, none⟩) (by simp) _).setCell (p := ⟨w.heap.size + 1 + 1, 0, none⟩) (by simp; omega) _).drew
      gi_wp2_with fail
      refine (wpIn_wide (n := 10)).2 ?_
      go_region
      gi_wp2
      refine ⟨by simp, .inl ⟨_, _, rfl, run_takeDeferred dK, ?_⟩⟩
      have hk1 : ∀ r, some D = some r → ∃ o : Obj, (((W.setCell ⟨w.heap.size + 1, 0, none⟩ (.int .i64 0)).setCell ⟨w.heap.size + 1 + 1, 0, none⟩ (.bool (decide (0 ≤ ft)))).drew).heap[r]? = some o ∧ o.isCells = false := fun r e => by cases e; exact ⟨_, dK, rfl⟩
      have r1 := (box_grown d1 (grownBy_putObj' _ D (.deferred none)) hk1).cell
      have r2 := (box_grown d2 (grownBy_putObj' _ D (.deferred none)) hk1).cell
      refine ⟨.tuple #[.int .i64 0, .bool (decide (0 ≤ ft))], by simp [results, Try.results11, go_sem, r1, r2], by rw [hh.out.1, hh.out.2, hh2.out], ?_⟩
      exact dB.trans (belowK_b (w := w) (Nat.le_refl _) _ D _ _ (by simp at hD; omega) dK rfl rfl)
    · have hh2 := Lib.hid (show (if ft < 0 then (0 : Int) else ft) = ft from if_neg hf)
      have hh3 := Lib.hid (show decide (0 ≤ ft) = true from by simp; omega)
      have d1 : Boxed (((W.setCell ⟨w.heap.size + 1, 0, none⟩ (.int .i64 ft)).setCell ⟨w.heap.size + 1 + 1, 0, none⟩ (.bool true)).drew) (w.heap.size + 1) 3 (.int .i64 ft) := Boxed.other (B' := w.heap.size + 1 + 1) (c1.set _) (by omega) _
      have d2 : Boxed (((W.setCell ⟨w.heap.size + 1, 0, none⟩ (.int .i64 ft)).setCell ⟨w.heap.size + 1 + 1, 0, none⟩ (.bool true)).drew) (w.heap.size + 1 + 1) 4 (.bool true) := Boxed.set _ (Boxed.other (B' := w.heap.size + 1) c2 (by omega) _)
      have dK : (((W.setCell ⟨w.heap.size + 1, 0, none⟩ (.int .i64 ft)).setCell ⟨w.heap.size + 1 + 1, 0, none⟩ (.bool true)).drew).heap[D]? = some (.deferred (some [])) := ((KeepsOthers.setCell _ _ _).trans (KeepsOthers.setCell _ _ _)).same D _ hK rfl
      have dB : Below w.heap.size w (((W.setCell ⟨w.heap.size + 1, 0, none⟩ (.int .i64 ft)).setCell ⟨w.heap.size + 1 + 1, 0, none⟩ (.bool true)).drew) := ((hB.setCell (p := ⟨w.heap.size + 1, 0, none⟩) (by simp) _).setCell (p := ⟨w.heap.size + 1 + 1, 0, none⟩) (by simp; omega) _).drew
      gi_wp2_with fail
      refine (wpIn_wide (n := 10)).2 ?_
      go_region
      gi_wp2
      refine ⟨by simp, .inl ⟨_, _, rfl, run_takeDeferred dK, ?_⟩⟩
      have hk1 : ∀ r, some D = some r → ∃ o : Obj, (((W.setCell ⟨w.heap.size + 1, 0, none⟩ (.int .i64 ft)).setCell ⟨w.heap.size + 1 + 1, 0, none⟩ (.bool true)).drew).heap[r]? = some o ∧ o.isCells = false := fun r e => by cases e; exact ⟨_, dK, rfl⟩
      have r1 := (box_grown d1 (grownBy_putObj' _ D (.deferred none)) hk1).cell
      have r2 := (box_grown d2 (grownBy_putObj' _ D (.deferred none)) hk1).cell
      refine ⟨.tuple #[.int .i64 ft, .bool true], by simp [results, Try.results11, go_sem, r1, r2], by rw [hh.out.1, hh.out.2, hh2.out, hh3.out], ?_⟩
      exact dB.trans (belowK_b (w := w) (Nat.le_refl _) _ D _ _ (by simp at hD; omega) dK rfl rfl)
  case stop =>
    rintro D c pre W hD hpre ⟨⟨rfl, p, x, rfl, hp, hx, c1, c2⟩, hB⟩ hK
    have q1 := c1.cell
    have q2 := c2.cell
    have hh := Lib.hid (HH.out p x hpre hp hx)
    clear hp
    gi_wp2
    refine ⟨by simp, .inl ⟨_, _, rfl, run_takeDeferred hK, ?_⟩⟩
    have hk1 : ∀ r, some D = some r → ∃ o : Obj, W.heap[r]? = some o ∧ o.isCells = false := fun r e => by cases e; exact ⟨_, hK, rfl⟩
    have r1 := (box_grown c1 (grownBy_putObj' _ D (.deferred none)) hk1).cell
    have r2 := (box_grown c2 (grownBy_putObj' _ D (.deferred none)) hk1).cell
    refine ⟨.tuple #[.int .i64 (x : Int), .bool true], by simp [results, Try.results11, go_sem, r1, r2], by rw [hh.out.1, hh.out.2], ?_⟩
    exact hB.trans (belowK_b (w := w) (Nat.le_refl _) _ D _ _ (by simp at hD; omega) hK rfl rfl)

theorem next_any (bs : List Bool) (a : Option Addr) (cap : Nat) (last : Int) (w : World) (hI : IsSl encB w a bs) (hbs : bs.length ≤ 17592186044416) :
    Calls Try.prog 11 #[.slice a bs.length cap, .int .i64 last] w fun e w' => e = .returned (.tuple #[.int .i64 (nextA bs last), .bool (pickB bs)]) ∧ Below w.heap.size w w' :=
  callsIn_wide.1 (next_in bs a cap last w hI hbs)
end Go.Proofs.Ytlndhdficackcaa
