/- The iterator over a path. -/
import Derived.Test.YtkkjnnmjfamkjaaB
namespace Go.Proofs.Ytkkjnnmjfamkjaa
open Go.RowKit

attribute [local go_sem ↓] Go.wp_at_zero Go.wp_at_succ
abbrev encI (z : Int) : Value := .int .i64 z
/-- how far up a pointer to a group stands -/
def far : Value → Nat
  | .pointer (some a) => a.off + 1
  | _ => 0
/-- the pointer to group g -/
def ptrT (q : Nat) (T : List Gp) (g : Int) : Value := match gAt T g with | some _ => .pointer (some ⟨q, (g.toNat - 1) * 3, none⟩) | none => .pointer none
theorem far_lt {q : Nat} {T : List Gp} (h : WfT T) {g : Int} {x : Gp} (hg : gAt T g = some x) : far (ptrT q T x.1) < far (ptrT q T g) := by
  have hp := h.parent hg
  have hl := (gAt_lt hg).1
  unfold ptrT
  rw [hg]
  cases hx : gAt T x.1 with
  | none => simp [far]
  | some y =>
    have h1 := (gAt_lt hx).1
    show (x.1.toNat - 1) * 3 + 1 < (g.toNat - 1) * 3 + 1
    omega
theorem TrAt.keep {w w' : World} {n0 base B q cap : Nat} {T : List Gp} (h : TrAt w base B q cap T) (hb : Below n0 w w') (hB : B < n0) (hq : q < n0) : TrAt w' base B q cap T :=
  ⟨(hb.block B hB).trans h.blk, owns_of_heap h.own fun g hg => by
    obtain rfl : q = g := by simpa [Value.ownBlock] using hg
    exact hb.block q hq⟩
/-- what the iterator knows at a world -/
structure UpAt (base n0 B q cap Tb Gb : Nat) (T : List Gp) (g : Int) (w : World) : Prop where
  tr : TrAt w base B q cap T
  tb : Blk w Tb #[.pointer (some ⟨B, 0, none⟩)] 23
  gb : Blk w Gb #[.int .i64 g] 3
  nB : B < n0
  nq : q < n0
  nT : Tb < n0
  nG : Gb < n0
  d1 : Gb ≠ B
  d2 : Gb ≠ q
  d3 : Gb ≠ Tb
theorem UpAt.keep {w w' : World} {base n0 B q cap Tb Gb : Nat} {T : List Gp} {g : Int} (h : UpAt base n0 B q cap Tb Gb T g w) (hb : Below n0 w w') : UpAt base n0 B q cap Tb Gb T g w' :=
  ⟨h.tr.keep hb h.nB h.nq, (hb.block _ h.nT).trans h.tb, (hb.block _ h.nG).trans h.gb, h.nB, h.nq, h.nT, h.nG, h.d1, h.d2, h.d3⟩
theorem UpAt.set {w : World} {base n0 B q cap Tb Gb : Nat} {T : List Gp} {g : Int} (h : UpAt base n0 B q cap Tb Gb T g w) (g' : Int) : UpAt base n0 B q cap Tb Gb T g' (w.setCell ⟨Gb, 0, none⟩ (.int .i64 g')) :=
  ⟨⟨h.tr.blk.setOther (Ne.symm h.d1) _, owns_of_heap h.tr.own fun b hb => by
    obtain rfl : q = b := by simpa [Value.ownBlock] using hb
    exact Below.heap_setCell _ _ _ _ (by simpa using Ne.symm h.d2)⟩, h.tb.setOther (Ne.symm h.d3) _, h.gb.set 0 _ rfl, h.nB, h.nq, h.nT, h.nG, h.d1, h.d2, h.d3⟩
set_option maxRecDepth 100000 in
set_option maxHeartbeats 1000000 in
theorem up1_in (F : Fence) (n : Nat) (h25 : F.fn 25) (h26 : F.fn 26) (h39 : F.fn 39) (hro : F.round = none) (hn : 2 ≤ n) (l base n0 B q cap Tb Gb : Nat) (T : List Gp) (hT : WfT T) (g0 : Int) (J Jx : List Int → World → Prop) (BB : Nat) (hJ : AbidesG Gb BB J)
    (hY : ∀ pre x W, J pre W → pre.length < (path T g0).length → YieldAt F (n - 1) Try.prog l #[encI x] W fun e W' =>
      (e = .returned (.bool true) ∧ J (pre ++ [x]) W' ∧ Below n0 W W') ∨ (e = .returned (.bool false) ∧ Jx (pre ++ [x]) W'))
    (W : World) (hU : UpAt base n0 B q cap Tb Gb T g0 W) (h0 : J [] W) :
    CallsIn F n Try.prog 39 #[.func (.yield l) #[] #[], .pointer (some ⟨Tb, 0, none⟩), .pointer (some ⟨Gb, 0, none⟩)] W fun e W' => (∃ v, e = .returned v) ∧
      ((∃ ys, ys = path T g0 ∧ J ys W') ∨ (∃ pre, pre <+: path T g0 ∧ Jx pre W')) := by
  have hne : T ≠ [] := by intro e; have := hT.root; rw [e] at this; simp at this
  have ofs : ∀ (g : Int) (w : World), TrAt w base B q cap T → CallsIn F (n - 1) Try.prog 26 #[.pointer (some ⟨B, 0, none⟩), .int .i64 g] w fun e w' => e = .returned (ptrT q T g) ∧ w = w' := fun g w h => by
    cases hg : gAt T g with
    | none => have := of_none_in F (n - 1) h25 h26 hro (by omega) w base B q cap T g h hne hT.le hg; unfold ptrT; rw [hg]; exact this
    | some x => have := of_in F (n - 1) h25 h26 hro (by omega) w base B q cap T g x h hne hT.le hg; unfold ptrT; rw [hg]; exact this
  have hn1 : 1 ≤ n := by omega
  have c1 := hU.tb.cell (i := 0) rfl
  have c2 := hU.gb.cell (i := 0) rfl
  simp at c1 c2
  refine callsIn_of_wp Try.func39 rfl h39 ?_ hro
  simp only [Try.ntmps39, List.size_toArray, List.length_cons, List.length_nil, Nat.reduceAdd, Nat.reduceSub, Array.replicate_succ, Array.replicate_zero, List.push_toArray, List.append_toArray, List.nil_append, List.cons_append]
  gi_wp2
  refine (ofs g0 W hU.tr).mono ?_
  rintro e w1 ⟨rfl, rfl⟩
  have UU := Lib.hid hU
  clear hU c1 c2
  gi_wp2
  gi_loopw [4] (fun p wr => ∃ (pre : List Int) (g : Int), p = ptrT q T g ∧ path T g0 = pre ++ path T g ∧ J pre wr ∧ UpAt base n0 B q cap Tb Gb T g wr) (fun p _ => far p)
  case atStart => exact ⟨[], g0, rfl, rfl, h0, UU.out⟩
  case round =>
    clear UU h0
    obtain ⟨pre, g, rfl, hpa, hJs, hU⟩ := hrel
    have c1 := hU.tb.cell (i := 0) rfl
    have c2 := hU.gb.cell (i := 0) rfl
    simp at c1 c2
    cases hg : gAt T g with
    | none =>
      have hp : ptrT q T g = .pointer none := by unfold ptrT; rw [hg]
      have HP := Lib.hid (show path T g0 = pre by rw [hpa, WfT.path_none hg, List.append_nil])
      rw [hp]
      clear hpa hg hp hU
      gi_wp2
      refine ⟨(fun _ h => by cases h), ?_⟩
      gi_wp2
      go_end0
      exact ⟨⟨_, rfl⟩, .inl ⟨_, HP.out.symm, hJs⟩⟩
    | some x =>
      have hp : ptrT q T g = .pointer (some ⟨q, (g.toNat - 1) * 3, none⟩) := by unfold ptrT; rw [hg]
      have hps := hT.path_some hg
      have HP := Lib.hid (show path T g0 = (pre ++ [g]) ++ path T x.1 by rw [hpa, hps]; simp)
      have hlt2 : pre.length < (path T g0).length := by rw [HP.out]; simp
      have FL := Lib.hid (show far (ptrT q T x.1) < far (.pointer (some ⟨q, (g.toNat - 1) * 3, none⟩)) by rw [← hp]; exact far_lt hT hg)
      have HG := Lib.hid hg
      have UU := Lib.hid hU
      obtain ⟨fn, tmps, assign, body, hy, hR⟩ := hY _ g wr hJs hlt2
      dsimp only [encI] at hy
      rw [hp]
      clear hpa hps hg hp hU
      gi_wp2
      refine hR.mono ?_
      rintro e W3 (⟨rfl, hJ3, hk3⟩ | ⟨rfl, hJx3⟩)
      · have U3 := Lib.hid (UU.out.keep hk3)
        obtain ⟨d0, d1, d2⟩ := U3.out.tr.grp HG.out
        have f0 := U3.out.gb.frozen 0
        have e2 := U3.out.gb.cell (i := 0) rfl
        have U4 := Lib.hid (U3.out.set x.1)
        have e1 := U4.out.tb.cell (i := 0) rfl
        have e3 := U4.out.gb.cell (i := 0) rfl
        have hJ4 := hJ _ _ _ (some Gb) hJ3 (Only.set Gb 0 W3 (.int .i64 x.1)).g (fun r e => by cases e; exact .inl rfl)
        simp at e1 e2 e3
        clear c1 c2
        gi_wp2
        refine (ofs x.1 _ U4.out.tr).mono ?_
        rintro e w4 ⟨rfl, rfl⟩
        clear e1 e2 e3 d0 d1 d2 f0
        gi_wp2
        go_roundw
        case rel => exact ⟨pre ++ [g], x.1, rfl, HP.out, hJ4, U4.out⟩
        case measure => exact FL.out
      · gi_wp2
        go_end0
        exact ⟨⟨_, rfl⟩, .inr ⟨_, ⟨_, HP.out.symm⟩, hJx3⟩⟩
/-- up's value, as a range over it meets it -/
theorem up_seq (F : Fence) (n : Nat) (h25 : F.fn 25) (h26 : F.fn 26) (h39 : F.fn 39) (hro : F.round = none) (hn : 2 ≤ n) (base n0 B q cap Tb Gb : Nat) (T : List Gp) (hT : WfT T) (g : Int) (w : World) (hU : UpAt base n0 B q cap Tb Gb T g w) (hn0 : n0 ≤ w.heap.size) :
    SeqG Gb F n Try.prog 39 #[.pointer (some ⟨Tb, 0, none⟩), .pointer (some ⟨Gb, 0, none⟩)] (fun x : Int => #[encI x]) (Below n0) (fun ys => ys = path T g) (fun pre => pre <+: path T g) (path T g).length w := fun l J Jx W hW hJ _ hY h0 =>
  up1_in F n h25 h26 h39 hro hn l base n0 B q cap Tb Gb T hT g J Jx W.heap.size hJ hY W (hU.keep (hW.mono hn0)) h0
set_option maxRecDepth 100000 in
set_option maxHeartbeats 400000 in
theorem up_in (F : Fence) (n : Nat) (h37 : F.fn 37) (hro : F.round = none) (B : Nat) (g : Int) (w : World) :
    CallsIn F n Try.prog 37 #[.pointer (some ⟨B, 0, none⟩), .int .i64 g] w fun e w' => e = .returned (.func (.func 39) #[] #[.pointer (some ⟨w.heap.size, 0, none⟩), .pointer (some ⟨w.heap.size + 1, 0, none⟩)]) ∧
      w' = (w.alloc (.cells #[.pointer (some ⟨B, 0, none⟩)] 23)).alloc (.cells #[.int .i64 g] 3) := by
  refine callsIn_of_wp Try.func37 rfl h37 ?_ hro
  simp only [Try.ntmps37, List.size_toArray, List.length_cons, List.length_nil, Nat.reduceAdd, Nat.reduceSub, Array.replicate_succ, Array.replicate_zero, List.push_toArray, List.append_toArray, List.nil_append, List.cons_append]
  gi_wp2
  go_ret
  exact ⟨rfl, rfl⟩
end Go.Proofs.Ytkkjnnmjfamkjaa
