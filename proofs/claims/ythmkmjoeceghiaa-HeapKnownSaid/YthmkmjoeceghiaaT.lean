/- maps.Keys of the map; Collect. -/
import Derived.Test.YthmkmjoeceghiaaS
namespace Go.Proofs.Ythmkmjoeceghiaa
open Go.RowKit Go.Maps Go.Shelf

attribute [local go_sem] Oper.semAt_some

set_option maxRecDepth 100000 in
set_option maxHeartbeats 1000000 in
theorem keys1_in (F : Fence) (n : Nat) (h71 : F.fn 71) (hro : F.round = none) (hn : 1 ≤ n) (l Bm M nn : Nat) (S : List Ob) (hS : ∀ o ∈ S, WfO o) (D0 : DataW Unit) (hD : ∀ o, WfO o → Maps.has D0 (kl o) = decide (o ∈ S)) (J Jx : List Ob → World → Prop)
    (hY : ∀ pre x W, J pre W → pre.length < nn → YieldAt F (n - 1) Try.prog l #[obV x] W fun e W' =>
      (e = .returned (.bool true) ∧ J (pre ++ [x]) W' ∧ KeepsWalks W W') ∨ (e = .returned (.bool false) ∧ Jx (pre ++ [x]) W'))
    (W : World) (hJ : AbidesFrom W.heap.size J) (hm : W.cell? ⟨Bm, 0, none⟩ = some (.map (some M))) (hown : W.ownsMap Try.prog 30 (unitElem (H := Unit)) M nn D0) (h0 : J [] W) :
    CallsIn F n Try.prog 71 #[.func (.yield l) #[] #[], .pointer (some ⟨Bm, 0, none⟩)] W fun e W' => (∃ v, e = .returned v) ∧
      ((∃ ys : List Ob, (ys.Nodup ∧ ∀ o, o ∈ ys ↔ o ∈ S) ∧ J ys W') ∨ (∃ pre : List Ob, True ∧ Jx pre W')) := by
  have hsz := size_le hown
  refine callsIn_of_wp Try.func71 rfl h71 ?_ hro
  simp only [Try.ntmps71, List.size_toArray, List.length_cons, List.length_nil, Nat.reduceAdd, Nat.reduceSub, Array.replicate_succ, Array.replicate_zero, List.push_toArray, List.append_toArray, List.nil_append, List.cons_append]
  gi_wp2_with (first
    | (gi_at_range; refine wpListIn_range_own _ rfl _ 42 rfl 30 69 law30 Try.underlying42 _ M nn _ rfl hown ?_; intro w0 hrg0 hg0 hs0)
    | gi_in)
  go_frame
  gi_loopw [] (fun wr => ∃ (left : Lit → Bool) (cnt : Nat) (ys : List Ob), wr.ranges Try.prog 30 (unitElem (H := Unit)) M W.heap.size nn D0 left cnt ∧ ys.length + cnt ≤ nn ∧ Came S left ys ∧ J ys wr)
    (fun wr => wr.rangeLeft M W.heap.size)
  case atStart =>
    exact ⟨_, _, [], hrg0, by simpa using hsz, Came.start hD, hJ [] W w0 none h0 hg0 (fun r e => by cases e)⟩
  case round =>
    obtain ⟨left, cnt, ys, hrg, hcs, hC, hJs⟩ := hrel
    gi_wp2_with (first
      | (gi_at_next; refine wpListIn_next_ranges _ rfl _ rfl 30 law30 (unitElem (H := Unit)) obV id (fun key kl hk => by obtain ⟨x, _, hx, _⟩ := key_inv hk; exact ⟨x, hx⟩) (fun v _ _ => ⟨v, rfl⟩) M W.heap.size nn _ _ _ rfl hrg ?_ ?_)
      | gi_in)
    · intro hc0 hl0
      gi_wp2
      go_end0
      exact ⟨⟨_, rfl⟩, .inl ⟨ys, hC.all hS hl0, hJs⟩⟩
    · intro o0 o1 o2 c kx yd yp w2 cnt2 hkey hlk hv hat hrg2 hlt hg2 hs2 hen
      obtain ⟨hx, rfl⟩ := key_ob hkey
      have hJ2 : J ys w2 := hJ ys wr w2 (some W.heap.size) hJs hg2 (fun r e => by cases e; exact ⟨Nat.le_refl _, hrg.iter_walk⟩)
      have hJ3 := hJ ys w2 (w2.alloc (.cells #[.int .i64 o0, .int .i64 o1, .int .i64 o2] 30)) none hJ2 (World.grownBy_alloc w2 _ none) (fun r e => by cases e)
      have hrg3 := hrg2.alloc (.cells #[.int .i64 o0, .int .i64 o1, .int .i64 o2] 30)
      have hC2 := hC.step hx hlk
      obtain ⟨fn, tmps, assign, body, hy, hR⟩ := hY ys (o0, o1, o2) _ hJ3 (by omega)
      dsimp only [obV] at hy
      have HRG := Lib.hid hrg
      have HC := Lib.hid hC2
      have HG3 := Lib.hid hrg3
      have HL := Lib.hid hcs
      clear hs2 hrg hrg2 hC hC2 hrg3 hJs hJ2 hJ3
      dsimp only [obV] at hen
      gi_wp2
      refine hR.mono ?_
      rintro e W3 (⟨rfl, hJ4, hk4⟩ | ⟨rfl, hJx4⟩)
      · gi_wp2
        have hrg4 := HG3.out.of_walks hk4
        go_roundw
        case rel => exact ⟨_, cnt2, ys ++ [(o0, o1, o2)], hrg4, by have := HL.out; simp; omega, HC.out, hJ4⟩
        case measure => rw [hrg4.left_eq, HRG.out.left_eq]; exact hlt
      · gi_wp2
        refine bodyPost_ret (results_none rfl _ _ _) rfl ?_
        exact ⟨⟨_, rfl⟩, .inr ⟨_, trivial, hJx4⟩⟩
theorem keys_seq (F : Fence) (n : Nat) (h71 : F.fn 71) (hro : F.round = none) (hn : 1 ≤ n) (Bm M nn : Nat) (S : List Ob) (hS : ∀ o ∈ S, WfO o) (D0 : DataW Unit) (hD : ∀ o, WfO o → Maps.has D0 (kl o) = decide (o ∈ S)) (w : World)
    (hB : Bm < w.heap.size) (hm : w.cell? ⟨Bm, 0, none⟩ = some (.map (some M))) (hown : w.ownsMap Try.prog 30 (unitElem (H := Unit)) M nn D0) :
    SeqStopsK F n Try.prog 71 #[.pointer (some ⟨Bm, 0, none⟩)] (fun o : Ob => #[obV o]) KeepsWalks (fun ys => ys.Nodup ∧ ∀ o, o ∈ ys ↔ o ∈ S) (fun _ => True) nn w := fun l J Jx W hW hJ _ hY h0 =>
  keys1_in F n h71 hro hn l Bm M nn S hS D0 hD J Jx hY W hJ ((hW.cell (p := ⟨Bm, 0, none⟩) hB).trans hm) (hown.kept (grown_of_below hW none) (by simp)) h0
/-- a round's own variable -/
def AxO (n0 Bm : Nat) (x : Ob) (a' : Act) (W : World) : Prop := ∃ b, n0 ≤ b ∧ a' = { tmps := #[.slice none 0 0, .func (.func 71) #[] #[.pointer (some ⟨Bm, 0, none⟩)], .pointer (some ⟨n0, 0, none⟩), undef, .slice none 0 0, .pointer (some ⟨b, 0, none⟩), .func (.func 71) #[] #[.pointer (some ⟨Bm, 0, none⟩)], obV x, undef, undef, undef, undef, undef], defers := [] } ∧ Blk W b #[.int .i64 x.1, .int .i64 x.2.1, .int .i64 x.2.2] 30
theorem axO_own (n0 Bm B : Nat) (x : Ob) (a' : Act) : OwnFrom B (fun (_ : Unit) W => AxO n0 Bm x a' W) := by
  rintro _ W W' row ⟨b, h1, h2, h3⟩ hg hr
  refine ⟨b, h1, h2, h3.grown hg fun e => ?_⟩
  obtain ⟨_, o, ho, hc⟩ := hr b e.symm
  rw [show W.heap[b]? = _ from h3] at ho; cases ho; cases hc
set_option maxRecDepth 100000 in
set_option maxHeartbeats 1000000 in
theorem append_in (F : Fence) (n : Nat) (h71 : F.fn 71) (h76 : F.fn 76) (hro : F.round = none) (hn : 3 ≤ n) (Bm M nn : Nat) (hnn : nn ≤ 5000000000000) (S : List Ob) (hS : ∀ o ∈ S, WfO o) (D0 : DataW Unit) (hD : ∀ o, WfO o → Maps.has D0 (kl o) = decide (o ∈ S)) (w : World)
    (hB : Bm < w.heap.size) (hm : w.cell? ⟨Bm, 0, none⟩ = some (.map (some M))) (hown : w.ownsMap Try.prog 30 (unitElem (H := Unit)) M nn D0) :
    CallsIn F n Try.prog 76 #[.slice none 0 0, .func (.func 71) #[] #[.pointer (some ⟨Bm, 0, none⟩)]] w fun e W' => ∃ (v : Value) (ys : List Ob), e = .returned v ∧ (ys.Nodup ∧ ∀ o, o ∈ ys ↔ o ∈ S) ∧ W'.ownsRow w.heap.size 30 3 v ys.length (ys.flatMap obCells) ∧ Below w.heap.size w W' := by
  have h1 : 1 ≤ n := by omega
  obtain ⟨i0, hi, hz0, hz1, hz2⟩ := info_parts info30
  refine callsIn_of_wp_marks Try.func76 rfl h76 ?_ hro
  simp only [Try.ntmps76, List.size_toArray, List.length_cons, List.length_nil, Nat.reduceAdd, Nat.reduceSub, Array.replicate_succ, Array.replicate_zero, List.push_toArray, List.append_toArray, List.nil_append, List.cons_append]
  gi_wp2
  have bO := Boxed.new w 37 (.slice none 0 0)
  have hB0 : Below w.heap.size w (w.alloc (.cells #[.slice none 0 0] 37)) := (Below.refl _ w).alloc (Nat.le_refl _) _
  refine wpIn_rangeFunc_ownH hro h1 (gf := 71) (lb := #[.pointer (some ⟨Bm, 0, none⟩)]) rfl h71 (enters_of Try.func71 (by kernel_rfl) rfl)
    (keys_seq F (n - 1) h71 hro (by omega) Bm M nn S hS D0 hD _ (by simp; omega) ((hB0.cell (p := ⟨Bm, 0, none⟩) hB).trans hm) (hown.kept (grown_of_below hB0 none) (by simp))) walksK_t walksK_b (Below.refl _ _) (fun _ => rfl)
    (fun pre W => (∃ v, Boxed W w.heap.size 37 v ∧ W.ownsRow w.heap.size 30 3 v pre.length (pre.flatMap obCells) ∧ True) ∧ Below w.heap.size w W)
    (fun _ _ _ => False)
    (OwnFrom.and (Own.from (holdsRow_own w.heap.size w.heap.size 37 30 3 (fun pre : List Ob => pre.length) (fun pre => pre.flatMap obCells) (fun _ _ => True)) _) (ownFrom_below (Nat.le_refl _) (by simp)))
    (fun _ _ _ _ _ hs _ _ => hs)
    ⟨⟨_, bO, World.ownsRow_nil _ _ _ _, trivial⟩, hB0⟩
    (AxO w.heap.size Bm) (axO_own w.heap.size Bm _) ?assign ?body ?done ?stop
  case assign =>
    intro l pre x W K hI hK
    obtain ⟨⟨v, hv, hrow, -⟩, hB⟩ := hI
    have hsz := hB.size
    gi_wp2
    refine hK _ _ ((KeepsOthers.alloc W _).from _) (KeepsWalks.alloc W _) ⟨⟨v, hv.alloc _, hrow.alloc _, trivial⟩, hB.alloc hsz _⟩ ⟨W.heap.size, hsz, rfl, Blk.new W _ _⟩
  case body =>
    rintro l pre x a' W - - ⟨⟨v, hv, hrow, -⟩, hB⟩ ⟨b, hb0, rfl, hb⟩ hlt
    have hc := hv.cell
    have c0 := hb.cell (i := 0) rfl
    have c1 := hb.cell (i := 1) rfl
    have c2 := hb.cell (i := 2) rfl
    simp at c0 c1 c2
    clear hb
    have hsz := hB.size
    gi_wp2_with (gi_at_builtin; refine wpListIn_append_own _ rfl _ _ 37 rfl w.heap.size 30 i0 _ 3 24 Try.underlying37 hi hz0 hz1 hz2 rfl (by decide) _ _ _ rfl (hrow.alloc _) ⟨W.heap.size, 0, none⟩ 1 1 (obCells x) rfl rfl (World.news_of_block (cs := #[.int .i64 x.1, .int .i64 x.2.1, .int .i64 x.2.2]) (t := 30) (fr := (0, 0)) (heap_alloc_new W _)) (by simp [Value.oneCell', obCells]) (by unfold maxLen; omega) (by omega) (by simp; omega) ?_; intro v' w1 hown' hgrow _; obtain ⟨g', cap', rfl⟩ := ownsRow_succ hown'; obtain ⟨hv1, hv2, hr2, hk2, hb2⟩ := hv.appended (by decide) hrow hB.size (Nat.le_refl _) hown' hgrow; have hc1 := hv1.cell; have hf1 := hv1.frozen)
    exact ⟨hk2.from _, hk2.walks, ⟨_, hv2, by simpa using hr2, trivial⟩, hB.trans hb2⟩
  case done =>
    rintro D ys W hD2 hys ⟨⟨v, hv, hrow, -⟩, hB⟩ hK
    have hc := hv.cell
    gi_wp2
    refine ⟨by simp, .inl ⟨_, _, rfl, run_takeDeferred hK, ?_⟩⟩
    exact ⟨_, results_tmp rfl _ _ _, v, ys, rfl, hys, ownsRow_putObj hrow _ hK rfl, hB.trans (belowK_b (w := w) (Nat.le_refl _) W D _ _ (by simp at hD2; omega) hK rfl rfl)⟩
  case stop =>
    rintro D c pre W _ _ h _
    exact h.elim
end Go.Proofs.Ythmkmjoeceghiaa
