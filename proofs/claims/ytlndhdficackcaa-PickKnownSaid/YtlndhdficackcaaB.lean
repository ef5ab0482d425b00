/- The walks over pick's iterator, Collect, and what reads them. -/
import Derived.Test.YtlndhdficackcaaA
import Derived.RangeFuncBox
import Derived.RangeFuncNested
import Derived.RangeFuncBound
import Derived.RangeFuncCalls
import Derived.RangeFuncLeaves
import Derived.Shelf.Abstract
import Derived.Shelf.RegionOpen
import Derived.OwnWalkIn
import Derived.TacticsInMore
import Derived.LoopNIn
import Derived.LoopIn
import Derived.Maps.AppendAt
namespace Go.Proofs.Ytlndhdficackcaa
open Go.RowKit Go.Shelf
attribute [local go_sem] Oper.semAt_some

abbrev encB : Bool → Value := .bool
abbrev encN : Nat → Value := fun n => .int .i64 (n : Int)

/-- the places that hold true, rising -/
def tr (bs : List Bool) : List Nat := (bs.zipIdx.filter (·.1)).map (·.2)
theorem tr_hit (bs : List Bool) : tr (bs ++ [true]) = tr bs ++ [bs.length] := by simp [tr, List.zipIdx_append]
theorem tr_miss (bs : List Bool) : tr (bs ++ [false]) = tr bs := by simp [tr, List.zipIdx_append]
theorem tr_append (bs cs : List Bool) : tr bs <+: tr (bs ++ cs) := by simp [tr, List.zipIdx_append]
theorem tr_take (bs : List Bool) (k : Nat) : tr (bs.take k) <+: tr bs := by
  have := tr_append (bs.take k) (bs.drop k)
  rwa [List.take_append_drop] at this
theorem tr_len (bs : List Bool) : (tr bs).length ≤ bs.length := by
  have := List.length_filter_le (fun x : Bool × Nat => x.1) bs.zipIdx
  simpa [tr] using this

set_option maxHeartbeats 400000 in
theorem running_in (F : Fence) (n : Nat) (h : F.fn 20) (hro : F.round = none) (a : Option Addr) (len cap : Nat) (w : World) :
    CallsIn F n Try.prog 20 #[.slice a len cap] w fun e w' => e = .returned (.func (.func 23) #[] #[.pointer (some ⟨w.heap.size, 0, none⟩)]) ∧ w' = w.alloc (.cells #[.slice a len cap] 22) := by
  refine callsIn_of_wp Try.func20 rfl h ?_ hro
  simp only [Try.ntmps20, List.size_toArray, List.length_cons, List.length_nil, Nat.reduceAdd, Nat.reduceSub, Array.replicate_succ, Array.replicate_zero, List.push_toArray, List.append_toArray, List.nil_append, List.cons_append]
  gi_wp2
  go_ret
  exact ⟨rfl, rfl⟩

set_option maxRecDepth 100000 in
set_option maxHeartbeats 1000000 in
theorem run1_in (F : Fence) (n : Nat) (h23 : F.fn 23) (hro : F.round = none) (hn : 1 ≤ n) (l Bs : Nat) (a : Option Addr) (cap : Nat) (bs : List Bool) (w0 : World) (hI : IsSl encB w0 a bs) (J Jx : List Nat → World → Prop)
    (hY : ∀ pre x W, J pre W → pre.length < (tr bs).length → YieldAt F (n - 1) Try.prog l #[encN x] W fun e W' =>
      (e = .returned (.bool true) ∧ J (pre ++ [x]) W' ∧ Below w0.heap.size W W') ∨ (e = .returned (.bool false) ∧ Jx (pre ++ [x]) W'))
    (W : World) (hW : Below w0.heap.size w0 W) (hBs : W.cell? ⟨Bs, 0, none⟩ = some (.slice a bs.length cap)) (h0 : J [] W) :
    CallsIn F n Try.prog 23 #[.func (.yield l) #[] #[], .pointer (some ⟨Bs, 0, none⟩)] W fun e W' => (∃ v, e = .returned v) ∧
      ((∃ ys, ys = tr bs ∧ J ys W') ∨ (∃ pre, pre <+: tr bs ∧ Jx pre W')) := by
  have hlen := hI.len
  refine callsIn_of_wp Try.func23 rfl h23 ?_ hro
  simp only [Try.ntmps23, List.size_toArray, List.length_cons, List.length_nil, Nat.reduceAdd, Nat.reduceSub, Array.replicate_succ, Array.replicate_zero, List.push_toArray, List.append_toArray, List.nil_append, List.cons_append]
  gi_wp2
  gi_loopw [7] (fun i wr => ∃ k : Nat, k ≤ bs.length ∧ i = .int .i64 k ∧ J (tr (bs.take k)) wr ∧ Below w0.heap.size w0 wr)
    (fun i _ => bs.length - (intOf i).toNat)
  case atStart => exact ⟨0, Nat.zero_le _, rfl, h0, hW⟩
  case round =>
    obtain ⟨k, hk, rfl, hJs, hnx⟩ := hrel
    by_cases hlt : k < bs.length
    · obtain ⟨b, off, x, rfl, hxk, hc⟩ := (hI.below hnx).at hlt
      have htk := take_succ hxk
      have hll : (bs.take k).length = k := by rw [List.length_take]; omega
      cases x with
      | true =>
        have ht : tr (bs.take (k + 1)) = tr (bs.take k) ++ [k] := by rw [htk, tr_hit, hll]
        have hlt2 : (tr (bs.take k)).length < (tr bs).length := by
          have := (tr_take bs (k + 1)).length_le
          rw [ht] at this; simp at this; omega
        obtain ⟨fn, tmps, assign, body, hy, hR⟩ := hY _ k wr hJs hlt2
        dsimp only [encN] at hy
        have HT := Lib.hid ht
        have HX := Lib.hid hxk
        clear htk ht hxk hI hll
        gi_wp2
        refine hR.mono ?_
        rintro e W3 (⟨rfl, hJ3, hk3⟩ | ⟨rfl, hJx3⟩)
        · gi_wp2
          go_roundw
          case rel => exact ⟨k + 1, by omega, by simp, by rw [HT.out]; exact hJ3, hnx.trans hk3⟩
          case measure => simp [intOf]; omega
        · gi_wp2
          refine bodyPost_ret (results_none rfl _ _ _) rfl ?_
          exact ⟨⟨_, rfl⟩, .inr ⟨_, by rw [← HT.out]; exact tr_take _ _, hJx3⟩⟩
      | false =>
        have ht : tr (bs.take (k + 1)) = tr (bs.take k) := by rw [htk, tr_miss]
        have HT := Lib.hid ht
        have HX := Lib.hid hxk
        clear htk ht hxk hI hll
        gi_wp2
        refine ⟨(fun _ h => by cases h), ?_⟩
        gi_wp2
        go_roundw
        case rel => exact ⟨k + 1, by omega, by simp, by rw [HT.out]; exact hJs, hnx⟩
        case measure => simp [intOf]; omega
    · obtain rfl : k = bs.length := by omega
      rw [List.take_length] at hJs
      gi_wp2
      go_end0
      exact ⟨⟨_, rfl⟩, .inl ⟨_, rfl, hJs⟩⟩

/-- running's value, as a range over it meets it -/
theorem run_stops (F : Fence) (n : Nat) (h23 : F.fn 23) (hro : F.round = none) (hn : 1 ≤ n) (Bs : Nat) (a : Option Addr) (cap : Nat) (bs : List Bool) (w0 w : World) (hI : IsSl encB w0 a bs) (hb : Below w0.heap.size w0 w) (hBl : Bs < w.heap.size)
    (hBs : w.cell? ⟨Bs, 0, none⟩ = some (.slice a bs.length cap)) :
    SeqStopsK F n Try.prog 23 #[.pointer (some ⟨Bs, 0, none⟩)] (fun x : Nat => #[encN x]) (Below w0.heap.size) (fun ys => ys = tr bs) (fun pre => pre <+: tr bs) (tr bs).length w := fun l J Jx W hW _ _ hY h0 =>
  run1_in F n h23 hro hn l Bs a cap bs w0 hI J Jx hY W (hb.trans (hW.mono hb.size)) ((hW.cell (p := ⟨Bs, 0, none⟩) hBl).trans hBs) h0

theorem info3 : (Try.prog.info? 3).map (fun i => (i.zero, i.size, i.bytes)) = some (some (.int .i64 0), 1, 8) := by kernel_rfl

set_option maxRecDepth 100000 in
set_option maxHeartbeats 1000000 in
theorem append_in (F : Fence) (n : Nat) (h22 : F.fn 22) (h23 : F.fn 23) (hro : F.round = none) (hn : 3 ≤ n) (Bs : Nat) (xs : List Nat) (w0 w : World) (hb0 : Below w0.heap.size w0 w) (hlen : xs.length * 8 ≤ 140737488355328)
    (hseq : ∀ w', Below w.heap.size w w' → SeqStopsK F (n - 1) Try.prog 23 #[.pointer (some ⟨Bs, 0, none⟩)] (fun x : Nat => #[encN x]) (Below w0.heap.size) (fun ys => ys = xs) (fun pre => pre <+: xs) xs.length w') :
    CallsIn F n Try.prog 22 #[.slice none 0 0, .func (.func 23) #[] #[.pointer (some ⟨Bs, 0, none⟩)]] w fun e W' => ∃ v, e = .returned v ∧ W'.ownsRow w.heap.size 3 1 v xs.length (xs.map encN) ∧ Below w.heap.size w W' := by
  have h1 : 1 ≤ n := by omega
  obtain ⟨i0, hi, hz0, hz1, hz2⟩ := info_parts info3
  refine callsIn_of_wp_marks Try.func22 rfl h22 ?_ hro
  simp only [Try.ntmps22, List.size_toArray, List.length_cons, List.length_nil, Nat.reduceAdd, Nat.reduceSub, Array.replicate_succ, Array.replicate_zero, List.push_toArray, List.append_toArray, List.nil_append, List.cons_append]
  gi_wp2
  have bO := Boxed.new w 27 (.slice none 0 0)
  have hB0 : Below w.heap.size w (w.alloc (.cells #[.slice none 0 0] 27)) := (Below.refl _ w).alloc (Nat.le_refl _) _
  have hs0 := hb0.size
  refine wpIn_rangeFunc_ownG hro h1 (gf := 23) (lb := #[.pointer (some ⟨Bs, 0, none⟩)]) rfl h23 (enters_of Try.func23 (by kernel_rfl) rfl)
    (hseq _ hB0) belowK_t (belowK_b (by simp; omega)) (Below.refl _ _) (fun _ => rfl)
    (fun pre W => (∃ v, Boxed W w.heap.size 27 v ∧ W.ownsRow w.heap.size 3 1 v pre.length (pre.map encN) ∧ True) ∧ Below w.heap.size w W)
    (fun _ _ _ => False)
    (OwnFrom.and (Own.from (holdsRow_own w.heap.size w.heap.size 27 3 1 (fun pre : List Nat => pre.length) (fun pre => pre.map encN) (fun _ _ => True)) _) (ownFrom_below (Nat.le_refl _) (by simp)))
    (fun _ _ _ _ _ hs _ _ => hs)
    ⟨⟨_, bO, World.ownsRow_nil _ _ _ _, trivial⟩, hB0⟩
    (fun x => { tmps := #[.slice none 0 0, .func (.func 23) #[] #[.pointer (some ⟨Bs, 0, none⟩)], .pointer (some ⟨w.heap.size, 0, none⟩), undef, .slice none 0 0, encN x, .func (.func 23) #[] #[.pointer (some ⟨Bs, 0, none⟩)], encN x, undef, undef, undef, undef, undef], defers := [] }) ?assign ?body ?done ?stop
  case assign =>
    intro l x W K hK
    gi_wp2
    exact hK
  case body =>
    rintro l pre x W ⟨⟨v, hv, hrow, -⟩, hB⟩ hlt
    have hc := hv.cell
    gi_wp2_with (gi_at_builtin; refine wpListIn_append_own _ rfl _ _ 27 rfl w.heap.size 3 i0 (.int .i64 0) 1 8 Try.underlying27 hi hz0 hz1 hz2 rfl (by decide) _ _ _ rfl (hrow.alloc _) ⟨W.heap.size, 0, none⟩ 1 1 [encN x] rfl rfl (cell_one_new _ _ _) (by simp [Value.oneCell', encN]) (by unfold maxLen; omega) (by omega) (by have := hB.size; simp; omega) ?_; intro v' w1 hown' hgrow _; obtain ⟨g', cap', rfl⟩ := ownsRow_succ hown'; obtain ⟨hv1, hv2, hr2, hk2, hb2⟩ := hv.appended (by decide) hrow hB.size (Nat.le_refl _) hown' hgrow; have hc1 := hv1.cell; have hf1 := hv1.frozen)
    exact ⟨hk2.from _, hb2.mono hs0, ⟨_, hv2, by simpa using hr2, trivial⟩, hB.trans hb2⟩
  case done =>
    rintro D ys W hD rfl ⟨⟨v, hv, hrow, -⟩, hB⟩ hK
    have hc := hv.cell
    gi_wp2
    refine ⟨by simp, .inl ⟨_, _, rfl, run_takeDeferred hK, ?_⟩⟩
    exact ⟨_, results_tmp rfl _ _ _, v, rfl, ownsRow_putObj hrow _ hK rfl, hB.trans (belowK_b (w := w) (Nat.le_refl _) W D _ _ (by simp at hD; omega) hK rfl rfl)⟩
  case stop =>
    rintro D c pre W _ _ h _
    exact h.elim
end Go.Proofs.Ytlndhdficackcaa
