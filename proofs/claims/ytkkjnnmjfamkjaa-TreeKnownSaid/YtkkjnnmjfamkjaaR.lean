/- Trees that are none. -/
import Derived.Test.YtkkjnnmjfamkjaaQ
namespace Go.Proofs.Ytkkjnnmjfamkjaa
open Go.RowKit Go.Shelf

attribute [local go_sem ↓] Go.wp_at_zero Go.wp_at_succ
attribute [local go_sem] Oper.semAt_some
/-- a tree that is none: no pointer, or one to an empty list -/
def NilT (w : World) (q : Option Addr) : Prop := q = none ∨ ∃ B, q = some ⟨B, 0, none⟩ ∧ Blk w B #[.slice none 0 0] 49
theorem NilT.below {w w' : World} {q : Option Addr} (h : NilT w q) (hb : Below w.heap.size w w') : NilT w' q := h.elim Or.inl fun ⟨B, hq, hB⟩ => Or.inr ⟨B, hq, hB.below hb⟩
set_option maxRecDepth 100000 in
set_option maxHeartbeats 400000 in
theorem none_nil (F : Fence) (n : Nat) (h25 : F.fn 25) (hro : F.round = none) (w : World) (q : Option Addr) (h : NilT w q) :
    CallsIn F n Try.prog 25 #[.pointer q] w fun e w' => e = .returned (.bool true) ∧ w = w' := by
  rcases h with rfl | ⟨B, rfl, hB⟩
  · refine callsIn_of_wp Try.func25 rfl h25 ?_ hro
    simp only [Try.ntmps25, List.size_toArray, List.length_cons, List.length_nil, Nat.reduceAdd, Nat.reduceSub, Array.replicate_succ, Array.replicate_zero, List.push_toArray, List.append_toArray, List.nil_append, List.cons_append]
    gi_wp2
    go_ret
    exact ⟨rfl, rfl⟩
  · have c0 := hB.cell (i := 0) rfl
    simp at c0
    clear hB
    refine callsIn_of_wp Try.func25 rfl h25 ?_ hro
    simp only [Try.ntmps25, List.size_toArray, List.length_cons, List.length_nil, Nat.reduceAdd, Nat.reduceSub, Array.replicate_succ, Array.replicate_zero, List.push_toArray, List.append_toArray, List.nil_append, List.cons_append]
    gi_wp2
    go_ret
    exact ⟨rfl, rfl⟩
set_option maxRecDepth 100000 in
set_option maxHeartbeats 400000 in
theorem of_nil (F : Fence) (n : Nat) (h25 : F.fn 25) (h26 : F.fn 26) (hro : F.round = none) (hn : 1 ≤ n) (w : World) (q : Option Addr) (g : Int) (h : NilT w q) :
    CallsIn F n Try.prog 26 #[.pointer q, .int .i64 g] w fun e w' => e = .returned (.pointer none) ∧ w = w' := by
  have hN := none_nil F (n - 1) h25 hro w q h
  clear h
  refine callsIn_of_wp Try.func26 rfl h26 ?_ hro
  simp only [Try.ntmps26, List.size_toArray, List.length_cons, List.length_nil, Nat.reduceAdd, Nat.reduceSub, Array.replicate_succ, Array.replicate_zero, List.push_toArray, List.append_toArray, List.nil_append, List.cons_append]
  gi_wp2
  refine hN.mono ?_
  rintro e w1 ⟨rfl, rfl⟩
  clear hN
  gi_wp2
  go_ret
  exact ⟨rfl, rfl⟩
set_option maxRecDepth 100000 in
set_option maxHeartbeats 400000 in
theorem add_nil (w : World) (q : Option Addr) (g : Int) (h : NilT w q) :
    Calls Try.prog 11 #[.pointer q, .int .i64 g] w fun e w' => e = .returned (.tuple #[.int .i64 0, .int .i64 1]) ∧ w = w' := by
  have hN := callsIn_wide.1 (none_nil Fence.wide 10 trivial rfl w q h)
  clear h
  go_enter Try.func11, Try.ntmps11
  go_wp2_with fail
  refine hN.mono ?_
  rintro e w1 ⟨rfl, rfl⟩
  clear hN
  go_wp2_with fail
  go_ret2
  exact ⟨rfl, rfl⟩
set_option maxRecDepth 100000 in
set_option maxHeartbeats 400000 in
theorem off_nil (w : World) (q : Option Addr) (g : Int) (h : NilT w q) :
    Calls Try.prog 13 #[.pointer q, .int .i64 g] w fun e w' => e = .returned (.int .i64 1) ∧ w = w' := by
  have hN := callsIn_wide.1 (none_nil Fence.wide 10 trivial rfl w q h)
  clear h
  go_enter Try.func13, Try.ntmps13
  go_wp2_with fail
  refine hN.mono ?_
  rintro e w1 ⟨rfl, rfl⟩
  clear hN
  go_wp2_with fail
  go_ret
  exact ⟨rfl, rfl⟩
set_option maxRecDepth 100000 in
set_option maxHeartbeats 400000 in
theorem parent_nil (w : World) (q : Option Addr) (g : Int) (h : NilT w q) :
    Calls Try.prog 21 #[.pointer q, .int .i64 g] w fun e w' => e = .returned (.int .i64 0) ∧ w = w' := by
  have hO := callsIn_wide.1 (of_nil Fence.wide 10 trivial trivial rfl (by omega) w q g h)
  clear h
  go_enter Try.func21, Try.ntmps21
  go_wp2_with fail
  refine hO.mono ?_
  rintro e w1 ⟨rfl, rfl⟩
  clear hO
  go_wp2_with fail
  go_ret
  exact ⟨rfl, rfl⟩
set_option maxRecDepth 100000 in
set_option maxHeartbeats 400000 in
theorem depth_nil (w : World) (q : Option Addr) (g : Int) (h : NilT w q) :
    Calls Try.prog 20 #[.pointer q, .int .i64 g] w fun e w' => e = .returned (.int .i64 0) ∧ w = w' := by
  have hO := callsIn_wide.1 (of_nil Fence.wide 10 trivial trivial rfl (by omega) w q g h)
  clear h
  go_enter Try.func20, Try.ntmps20
  go_wp2_with fail
  refine hO.mono ?_
  rintro e w1 ⟨rfl, rfl⟩
  clear hO
  go_wp2_with fail
  go_ret
  exact ⟨rfl, rfl⟩
set_option maxRecDepth 100000 in
set_option maxHeartbeats 400000 in
theorem online_nil (w : World) (q : Option Addr) (g : Int) (h : NilT w q) :
    Calls Try.prog 24 #[.pointer q, .int .i64 g] w fun e w' => e = .returned (.bool false) ∧ w = w' := by
  have hO := callsIn_wide.1 (of_nil Fence.wide 10 trivial trivial rfl (by omega) w q g h)
  clear h
  go_enter Try.func24, Try.ntmps24
  go_wp2_with fail
  refine hO.mono ?_
  rintro e w1 ⟨rfl, rfl⟩
  clear hO
  go_wp2_with fail
  go_ret
  exact ⟨rfl, rfl⟩
set_option maxRecDepth 100000 in
set_option maxHeartbeats 400000 in
theorem many_nil (w : World) (q : Option Addr) (h : NilT w q) :
    Calls Try.prog 18 #[.pointer q] w fun e w' => e = .returned (.int .i64 0) ∧ w = w' := by
  have hN := callsIn_wide.1 (none_nil Fence.wide 10 trivial rfl w q h)
  clear h
  go_enter Try.func18, Try.ntmps18
  go_wp2_with fail
  refine hN.mono ?_
  rintro e w1 ⟨rfl, rfl⟩
  clear hN
  go_wp2_with fail
  go_ret
  exact ⟨rfl, rfl⟩
/-- the iterator over no path -/
structure UpN (n0 Tb Gb : Nat) (q : Option Addr) (g : Int) (w : World) : Prop where
  nl : NilT w q
  tb : Blk w Tb #[.pointer q] 23
  gb : Blk w Gb #[.int .i64 g] 3
theorem UpN.below {w w' : World} {n0 Tb Gb : Nat} {q : Option Addr} {g : Int} (h : UpN n0 Tb Gb q g w) (hb : Below w.heap.size w w') : UpN n0 Tb Gb q g w' := ⟨h.nl.below hb, h.tb.below hb, h.gb.below hb⟩
set_option maxRecDepth 100000 in
set_option maxHeartbeats 1000000 in
theorem up1_nil (F : Fence) (n : Nat) (h25 : F.fn 25) (h26 : F.fn 26) (h39 : F.fn 39) (hro : F.round = none) (hn : 2 ≤ n) (l n0 Tb Gb : Nat) (q : Option Addr) (g0 : Int) (J Jx : List Int → World → Prop)
    (W : World) (hU : UpN n0 Tb Gb q g0 W) (h0 : J [] W) :
    CallsIn F n Try.prog 39 #[.func (.yield l) #[] #[], .pointer (some ⟨Tb, 0, none⟩), .pointer (some ⟨Gb, 0, none⟩)] W fun e W' => (∃ v, e = .returned v) ∧
      ((∃ ys, ys = ([] : List Int) ∧ J ys W') ∨ (∃ pre, pre <+: ([] : List Int) ∧ Jx pre W')) := by
  have hO := of_nil F (n - 1) h25 h26 hro (by omega) W q g0 hU.nl
  have hn1 : 1 ≤ n := by omega
  have c1 := hU.tb.cell (i := 0) rfl
  have c2 := hU.gb.cell (i := 0) rfl
  simp at c1 c2
  clear hU
  refine callsIn_of_wp Try.func39 rfl h39 ?_ hro
  simp only [Try.ntmps39, List.size_toArray, List.length_cons, List.length_nil, Nat.reduceAdd, Nat.reduceSub, Array.replicate_succ, Array.replicate_zero, List.push_toArray, List.append_toArray, List.nil_append, List.cons_append]
  gi_wp2
  refine hO.mono ?_
  rintro e w1 ⟨rfl, rfl⟩
  clear hO
  gi_wp2
  gi_loopw [4] (fun p wr => p = .pointer none ∧ wr = W) (fun p _ => 0)
  case atStart => exact ⟨rfl, rfl⟩
  case round =>
    obtain ⟨rfl, rfl⟩ := hrel
    gi_wp2
    refine ⟨(fun _ h => by cases h), ?_⟩
    gi_wp2
    go_end0
    exact ⟨⟨_, rfl⟩, .inl ⟨_, rfl, h0⟩⟩
theorem up_seqN (F : Fence) (n : Nat) (h25 : F.fn 25) (h26 : F.fn 26) (h39 : F.fn 39) (hro : F.round = none) (hn : 2 ≤ n) (n0 Tb Gb : Nat) (q : Option Addr) (g : Int) (w : World) (hU : UpN n0 Tb Gb q g w) :
    SeqG Gb F n Try.prog 39 #[.pointer (some ⟨Tb, 0, none⟩), .pointer (some ⟨Gb, 0, none⟩)] (fun x : Int => #[encI x]) (Below n0) (fun ys => ys = []) (fun pre => pre <+: []) 0 w := fun l J Jx W hW _ _ _ h0 =>
  up1_nil F n h25 h26 h39 hro hn l n0 Tb Gb q g J Jx W (hU.below hW) h0
set_option maxRecDepth 100000 in
set_option maxHeartbeats 400000 in
theorem upN_in (F : Fence) (n : Nat) (h37 : F.fn 37) (hro : F.round = none) (q : Option Addr) (g : Int) (w : World) :
    CallsIn F n Try.prog 37 #[.pointer q, .int .i64 g] w fun e w' => e = .returned (.func (.func 39) #[] #[.pointer (some ⟨w.heap.size, 0, none⟩), .pointer (some ⟨w.heap.size + 1, 0, none⟩)]) ∧
      w' = (w.alloc (.cells #[.pointer q] 23)).alloc (.cells #[.int .i64 g] 3) := by
  refine callsIn_of_wp Try.func37 rfl h37 ?_ hro
  simp only [Try.ntmps37, List.size_toArray, List.length_cons, List.length_nil, Nat.reduceAdd, Nat.reduceSub, Array.replicate_succ, Array.replicate_zero, List.push_toArray, List.append_toArray, List.nil_append, List.cons_append]
  gi_wp2
  go_ret
  exact ⟨rfl, rfl⟩
theorem upN_new {w : World} {q : Option Addr} (h : NilT w q) (g : Int) :
    UpN (w.heap.size + 2) w.heap.size (w.heap.size + 1) q g ((w.alloc (.cells #[.pointer q] 23)).alloc (.cells #[.int .i64 g] 3)) := by
  have hb : Below w.heap.size w ((w.alloc (.cells #[.pointer q] 23)).alloc (.cells #[.int .i64 g] 3)) := (by repeat (first | exact Below.refl _ _ | assumption | refine Below.setCell ?_ (by first | omega | (simp; done) | (simp; omega)) _ | refine Below.drew ?_ | refine Below.alloc ?_ (by first | omega | (simp; done) | (simp; omega)) _ | refine Below.trans ?_ (Below.mono (by assumption) (by first | omega | (simp; done) | (simp; omega)))))
  refine ⟨h.below hb, (Blk.new w _ _).alloc _, ?_⟩
  have := Blk.new (w.alloc (.cells #[.pointer q] 23)) #[.int .i64 g] 3
  rwa [World.size_alloc] at this
set_option maxRecDepth 100000 in
set_option maxHeartbeats 1000000 in
theorem appendN_in (F : Fence) (n : Nat) (h25 : F.fn 25) (h26 : F.fn 26) (h38 : F.fn 38) (h39 : F.fn 39) (hro : F.round = none) (hn : 4 ≤ n) (m n0 Tb Gb : Nat) (q : Option Addr) (g : Int) (w : World)
    (hU : UpN n0 Tb Gb q g w) (hn0 : n0 ≤ w.heap.size) (hGn : Gb < n0) (hm : m ≤ Gb) :
    CallsIn F n Try.prog 38 #[.slice none 0 0, .func (.func 39) #[] #[.pointer (some ⟨Tb, 0, none⟩), .pointer (some ⟨Gb, 0, none⟩)]] w fun e W' => ∃ v, e = .returned v ∧ W'.ownsRow w.heap.size 3 1 v 0 [] ∧ Below m w W' := by
  have h1 : 1 ≤ n := by omega
  refine callsIn_of_wp_marks Try.func38 rfl h38 ?_ hro
  simp only [Try.ntmps38, List.size_toArray, List.length_cons, List.length_nil, Nat.reduceAdd, Nat.reduceSub, Array.replicate_succ, Array.replicate_zero, List.push_toArray, List.append_toArray, List.nil_append, List.cons_append]
  gi_wp2
  have bO := Boxed.new w 39 (.slice none 0 0)
  have hB0 : Below w.heap.size w (w.alloc (.cells #[.slice none 0 0] 39)) := (Below.refl _ w).alloc (Nat.le_refl _) _
  refine rangeG hro h1 (gf := 39) (lb := #[.pointer (some ⟨Tb, 0, none⟩), .pointer (some ⟨Gb, 0, none⟩)]) rfl h39 (enters_of Try.func39 (by kernel_rfl) rfl) (G := Gb) (by simp; omega)
    (up_seqN F (n - 1) h25 h26 h39 hro (by omega) n0 Tb Gb q g _ (hU.below hB0)) belowK_t (belowK_b (by simp; omega)) (Below.refl _ _) (fun _ => rfl)
    (fun pre W => (∃ v, Boxed W w.heap.size 39 v ∧ W.ownsRow w.heap.size 3 1 v pre.length (pre.map encI)) ∧ Below m w W)
    (fun _ _ _ => False)
    ((rowG _ _ (by omega) (by omega)).and (belowG hm (by simp; omega) (by omega)))
    (fun _ _ _ _ _ hs _ _ => hs)
    ⟨⟨_, bO, World.ownsRow_nil _ _ _ _⟩, hB0.mono (by omega)⟩
    (fun x => { tmps := #[.slice none 0 0, .func (.func 39) #[] #[.pointer (some ⟨Tb, 0, none⟩), .pointer (some ⟨Gb, 0, none⟩)], .pointer (some ⟨w.heap.size, 0, none⟩), undef, .slice none 0 0, encI x, .func (.func 39) #[] #[.pointer (some ⟨Tb, 0, none⟩), .pointer (some ⟨Gb, 0, none⟩)], encI x, undef, undef, undef, undef, undef], defers := [] }) ?assign ?body ?done ?stop
  case assign =>
    intro l x W K hK
    gi_wp2
    exact hK
  case body =>
    rintro l pre x W _ h
    exact absurd h (Nat.not_lt_zero _)
  case done =>
    rintro D ys W hD rfl ⟨⟨v, hv, hrow⟩, hB⟩ hK
    have hc := hv.cell
    gi_wp2
    refine ⟨by simp, .inl ⟨_, _, rfl, run_takeDeferred hK, ?_⟩⟩
    exact ⟨_, results_tmp rfl _ _ _, v, rfl, ownsRow_putObj hrow _ hK rfl, hB.trans (belowK_b (w := w) (by omega) W D _ _ (by simp at hD; omega) hK rfl rfl)⟩
  case stop =>
    rintro D c pre W _ _ h _
    exact h.elim
set_option maxRecDepth 100000 in
set_option maxHeartbeats 400000 in
theorem collect_nil (m n0 Tb Gb : Nat) (q : Option Addr) (g : Int) (w : World)
    (hU : UpN n0 Tb Gb q g w) (hn0 : n0 ≤ w.heap.size) (hGn : Gb < n0) (hm : m ≤ Gb) :
    Calls Try.prog 36 #[.func (.func 39) #[] #[.pointer (some ⟨Tb, 0, none⟩), .pointer (some ⟨Gb, 0, none⟩)]] w fun e W' => ∃ v, e = .returned v ∧ W'.ownsRow w.heap.size 3 1 v 0 [] ∧ Below m w W' := by
  have happ := callsIn_wide.1 (appendN_in Fence.wide 10 trivial trivial trivial trivial rfl (by omega) m n0 Tb Gb q g w hU hn0 hGn hm)
  clear hU
  go_enter Try.func36, Try.ntmps36
  go_wp2_with fail
  refine happ.mono ?_
  rintro e w1 ⟨v, rfl, hv⟩
  clear happ
  go_wp2_with fail
  go_ret
  exact ⟨v, rfl, hv⟩
set_option maxRecDepth 100000 in
set_option maxHeartbeats 400000 in
theorem path_nil (w : World) (q : Option Addr) (g : Int) (h : NilT w q) :
    Calls Try.prog 19 #[.pointer q, .int .i64 g] w fun e W' => ∃ v, e = .returned v ∧ W'.ownsRow w.heap.size 3 1 v 0 [] ∧ Below w.heap.size w W' := by
  have hup := callsIn_wide.1 (upN_in Fence.wide 10 trivial rfl q g w)
  have hU := upN_new h g
  have hcol := collect_nil w.heap.size _ _ _ q g _ hU (by simp) (by omega) (by omega)
  have hb : Below w.heap.size w ((w.alloc (.cells #[.pointer q] 23)).alloc (.cells #[.int .i64 g] 3)) := (by repeat (first | exact Below.refl _ _ | assumption | refine Below.setCell ?_ (by first | omega | (simp; done) | (simp; omega)) _ | refine Below.drew ?_ | refine Below.alloc ?_ (by first | omega | (simp; done) | (simp; omega)) _ | refine Below.trans ?_ (Below.mono (by assumption) (by first | omega | (simp; done) | (simp; omega)))))
  clear hU h
  go_enter Try.func19, Try.ntmps19
  go_wp2_with fail
  refine hup.mono ?_
  rintro e w1 ⟨rfl, rfl⟩
  clear hup
  go_wp2_with fail
  refine hcol.mono ?_
  rintro e w1 ⟨v, rfl, hv, hb1⟩
  clear hcol
  have HV := Lib.hid (owns_mono hv (base' := w.heap.size) (by simp; omega))
  have HB := Lib.hid (hb.trans hb1)
  clear hv hb hb1
  go_wp2_with fail
  go_ret
  exact ⟨v, rfl, HV.out, HB.out⟩
set_option maxRecDepth 100000 in
set_option maxHeartbeats 1000000 in
theorem heirN_in (F : Fence) (n : Nat) (h23 : F.fn 23) (h24 : F.fn 24) (h25 : F.fn 25) (h26 : F.fn 26) (h37 : F.fn 37) (h39 : F.fn 39) (hro : F.round = none) (hn : 6 ≤ n) (w : World) (q : Option Addr) (g : Int) (h : NilT w q) :
    CallsIn F n Try.prog 23 #[.pointer q, .int .i64 g] w fun e W' => e = .returned (.int .i64 (0)) ∧ Below w.heap.size w W' := by
  have h1 : 1 ≤ n := by omega
  have hup := upN_in F (n - 1) h37 hro q g ((w.alloc (.cells #[.pointer q] 23)).alloc (.cells #[.int .i64 0] 3))
  have hb0 : Below w.heap.size w ((w.alloc (.cells #[.pointer q] 23)).alloc (.cells #[.int .i64 0] 3)) := (by repeat (first | exact Below.refl _ _ | assumption | refine Below.setCell ?_ (by first | omega | (simp; done) | (simp; omega)) _ | refine Below.drew ?_ | refine Below.alloc ?_ (by first | omega | (simp; done) | (simp; omega)) _ | refine Below.trans ?_ (Below.mono (by assumption) (by first | omega | (simp; done) | (simp; omega)))))
  have hU := upN_new (h.below hb0) g
  clear h
  refine callsIn_of_wp_marks Try.func23 rfl h23 ?_ hro
  simp only [Try.ntmps23, List.size_toArray, List.length_cons, List.length_nil, Nat.reduceAdd, Nat.reduceSub, Array.replicate_succ, Array.replicate_zero, List.push_toArray, List.append_toArray, List.nil_append, List.cons_append]
  gi_wp2
  refine hup.mono ?_
  rintro e w1 ⟨rfl, rfl⟩
  clear hup
  gi_wp2
  obtain ⟨W0, hW0⟩ : ∃ W0, (((w.alloc (.cells #[.pointer q] 23)).alloc (.cells #[.int .i64 0] 3)).alloc (.cells #[.pointer q] 23)).alloc (.cells #[.int .i64 g] 3) = W0 := ⟨_, rfl⟩
  have hs0 : W0.heap.size = w.heap.size + 4 := by rw [← hW0]; simp
  have hBW : Below w.heap.size w W0 := by rw [← hW0]; exact (by repeat (first | exact Below.refl _ _ | assumption | refine Below.setCell ?_ (by first | omega | (simp; done) | (simp; omega)) _ | refine Below.drew ?_ | refine Below.alloc ?_ (by first | omega | (simp; done) | (simp; omega)) _ | refine Below.trans ?_ (Below.mono (by assumption) (by first | omega | (simp; done) | (simp; omega)))))
  have x1 : Boxed W0 w.heap.size 23 (.pointer q) := by rw [← hW0]; exact (((Boxed.new w _ _).alloc _).alloc _).alloc _
  have x2 : Boxed W0 (w.heap.size + 1) 3 (.int .i64 0) := by
    rw [← hW0]
    have := Boxed.new (w.alloc (.cells #[.pointer q] 23)) 3 (.int .i64 0)
    rw [World.size_alloc] at this
    exact (this.alloc _).alloc _
  simp only [World.size_alloc] at hU
  rw [hW0] at hU ⊢
  refine rangeG hro h1 (gf := 39) (lb := #[.pointer (some ⟨w.heap.size + 2, 0, none⟩), .pointer (some ⟨w.heap.size + 3, 0, none⟩)]) rfl h39 (enters_of Try.func39 (by kernel_rfl) rfl) (G := w.heap.size + 3) (by omega)
    (up_seqN F (n - 1) h25 h26 h39 hro (by omega) (w.heap.size + 4) _ _ q g W0 hU) belowK_t (belowK_b (by omega)) (Below.refl _ _) (fun _ => rfl)
    (fun pre W => (True ∧ Boxed W w.heap.size 23 (.pointer q) ∧ Boxed W (w.heap.size + 1) 3 (.int .i64 0)) ∧ Below w.heap.size w W)
    (fun _ _ _ => False)
    (((OwnG.pure _).and ((boxG (fun _ => _) (by omega)).and (boxG (fun _ => _) (by omega)))).and (belowG (by omega) (by omega) (by omega)))
    (fun _ _ _ _ _ hs _ _ => hs)
    ⟨⟨trivial, x1, x2⟩, hBW⟩
    (fun x => { tmps := #[.pointer q, .int .i64 g, .pointer (some ⟨w.heap.size, 0, none⟩), undef, .pointer (some ⟨w.heap.size + 1, 0, none⟩), encI x, .pointer q, .int .i64 g, .func (.func 39) #[] #[.pointer (some ⟨w.heap.size + 2, 0, none⟩), .pointer (some ⟨w.heap.size + 3, 0, none⟩)], encI x, undef, undef, undef, undef], defers := [] }) ?assign ?body ?done ?stop
  case assign =>
    intro l x W K hK
    gi_wp2
    exact hK
  case body =>
    rintro l pre x W _ h
    exact absurd h (Nat.not_lt_zero _)
  case done =>
    rintro D ys W hD rfl ⟨⟨-, y1, y2⟩, hB⟩ hK
    have c2 := y2.cell
    have f2 := y2.frozen
    gi_wp2
    have hK' := (KeepsOthers.setCell W ⟨w.heap.size + 1, 0, none⟩ (.int .i64 0)).same D _ hK rfl
    refine ⟨by simp, .inl ⟨_, _, rfl, run_takeDeferred hK', ?_⟩⟩
    have hc5 := cell_kept (World.cell?_setCell_same' W ⟨w.heap.size + 1, 0, none⟩ (.int .i64 0) (by rw [c2]; rfl)) (grownBy_putObj' _ D (.deferred none)) (fun r e => by cases e; exact ⟨_, hK', rfl⟩)
    refine ⟨.int .i64 0, by simp [results, Try.f23, go_sem, hc5], rfl, (hB.setCell (p := ⟨w.heap.size + 1, 0, none⟩) (by simp) _).trans (belowK_b (w := w) (Nat.le_refl _) _ D _ _ (by omega) hK' rfl rfl)⟩
  case stop =>
    rintro D c pre W _ _ h _
    exact h.elim
set_option maxRecDepth 100000 in
set_option maxHeartbeats 1000000 in
theorem belowN_in (F : Fence) (n : Nat) (h22 : F.fn 22) (h25 : F.fn 25) (h26 : F.fn 26) (h37 : F.fn 37) (h39 : F.fn 39) (hro : F.round = none) (hn : 6 ≤ n) (w : World) (q : Option Addr) (g top : Int) (h : NilT w q) :
    CallsIn F n Try.prog 22 #[.pointer q, .int .i64 g, .int .i64 top] w fun e W' => e = .returned (.bool (false)) ∧ Below w.heap.size w W' := by
  have h1 : 1 ≤ n := by omega
  have hup := upN_in F (n - 1) h37 hro q g ((w.alloc (.cells #[.int .i64 top] 3)).alloc (.cells #[.bool false] 4))
  have hb0 : Below w.heap.size w ((w.alloc (.cells #[.int .i64 top] 3)).alloc (.cells #[.bool false] 4)) := (by repeat (first | exact Below.refl _ _ | assumption | refine Below.setCell ?_ (by first | omega | (simp; done) | (simp; omega)) _ | refine Below.drew ?_ | refine Below.alloc ?_ (by first | omega | (simp; done) | (simp; omega)) _ | refine Below.trans ?_ (Below.mono (by assumption) (by first | omega | (simp; done) | (simp; omega)))))
  have hU := upN_new (h.below hb0) g
  clear h
  refine callsIn_of_wp_marks Try.func22 rfl h22 ?_ hro
  simp only [Try.ntmps22, List.size_toArray, List.length_cons, List.length_nil, Nat.reduceAdd, Nat.reduceSub, Array.replicate_succ, Array.replicate_zero, List.push_toArray, List.append_toArray, List.nil_append, List.cons_append]
  gi_wp2
  refine hup.mono ?_
  rintro e w1 ⟨rfl, rfl⟩
  clear hup
  gi_wp2
  obtain ⟨W0, hW0⟩ : ∃ W0, (((w.alloc (.cells #[.int .i64 top] 3)).alloc (.cells #[.bool false] 4)).alloc (.cells #[.pointer q] 23)).alloc (.cells #[.int .i64 g] 3) = W0 := ⟨_, rfl⟩
  have hs0 : W0.heap.size = w.heap.size + 4 := by rw [← hW0]; simp
  have hBW : Below w.heap.size w W0 := by rw [← hW0]; exact (by repeat (first | exact Below.refl _ _ | assumption | refine Below.setCell ?_ (by first | omega | (simp; done) | (simp; omega)) _ | refine Below.drew ?_ | refine Below.alloc ?_ (by first | omega | (simp; done) | (simp; omega)) _ | refine Below.trans ?_ (Below.mono (by assumption) (by first | omega | (simp; done) | (simp; omega)))))
  have x1 : Boxed W0 w.heap.size 3 (.int .i64 top) := by rw [← hW0]; exact (((Boxed.new w _ _).alloc _).alloc _).alloc _
  have x2 : Boxed W0 (w.heap.size + 1) 4 (.bool false) := by
    rw [← hW0]
    have := Boxed.new (w.alloc (.cells #[.int .i64 top] 3)) 4 (.bool false)
    rw [World.size_alloc] at this
    exact (this.alloc _).alloc _
  simp only [World.size_alloc] at hU
  rw [hW0] at hU ⊢
  refine rangeG hro h1 (gf := 39) (lb := #[.pointer (some ⟨w.heap.size + 2, 0, none⟩), .pointer (some ⟨w.heap.size + 3, 0, none⟩)]) rfl h39 (enters_of Try.func39 (by kernel_rfl) rfl) (G := w.heap.size + 3) (by omega)
    (up_seqN F (n - 1) h25 h26 h39 hro (by omega) (w.heap.size + 4) _ _ q g W0 hU) belowK_t (belowK_b (by omega)) (Below.refl _ _) (fun _ => rfl)
    (fun pre W => (True ∧ Boxed W w.heap.size 3 (.int .i64 top) ∧ Boxed W (w.heap.size + 1) 4 (.bool false)) ∧ Below w.heap.size w W)
    (fun _ _ _ => False)
    (((OwnG.pure _).and ((boxG (fun _ => _) (by omega)).and (boxG (fun _ => _) (by omega)))).and (belowG (by omega) (by omega) (by omega)))
    (fun _ _ _ _ _ hs _ _ => hs)
    ⟨⟨trivial, x1, x2⟩, hBW⟩
    (fun x => { tmps := #[.pointer q, .int .i64 g, .int .i64 top, undef, undef, .pointer (some ⟨w.heap.size, 0, none⟩), .pointer (some ⟨w.heap.size + 1, 0, none⟩), encI x, .pointer q, .int .i64 g, .func (.func 39) #[] #[.pointer (some ⟨w.heap.size + 2, 0, none⟩), .pointer (some ⟨w.heap.size + 3, 0, none⟩)], encI x, undef, undef, undef], defers := [] }) ?assign ?body ?done ?stop
  case assign =>
    intro l x W K hK
    gi_wp2
    exact hK
  case body =>
    rintro l pre x W _ h
    exact absurd h (Nat.not_lt_zero _)
  case done =>
    rintro D ys W hD rfl ⟨⟨-, y1, y2⟩, hB⟩ hK
    have c2 := y2.cell
    have f2 := y2.frozen
    gi_wp2
    have hK' := (KeepsOthers.setCell W ⟨w.heap.size + 1, 0, none⟩ (.bool false)).same D _ hK rfl
    refine ⟨by simp, .inl ⟨_, _, rfl, run_takeDeferred hK', ?_⟩⟩
    have hc5 := cell_kept (World.cell?_setCell_same' W ⟨w.heap.size + 1, 0, none⟩ (.bool false) (by rw [c2]; rfl)) (grownBy_putObj' _ D (.deferred none)) (fun r e => by cases e; exact ⟨_, hK', rfl⟩)
    refine ⟨.bool false, by simp [results, Try.f22, go_sem, hc5], rfl, (hB.setCell (p := ⟨w.heap.size + 1, 0, none⟩) (by simp) _).trans (belowK_b (w := w) (Nat.le_refl _) _ D _ _ (by omega) hK' rfl rfl)⟩
  case stop =>
    rintro D c pre W _ _ h _
    exact h.elim
theorem heir_nil (w : World) (q : Option Addr) (g : Int) (h : NilT w q) : Calls Try.prog 23 #[.pointer q, .int .i64 g] w fun e W' => e = .returned (.int .i64 0) ∧ Below w.heap.size w W' :=
  callsIn_wide.1 (heirN_in Fence.wide 10 trivial trivial trivial trivial trivial trivial rfl (by omega) w q g h)
theorem below_nil (w : World) (q : Option Addr) (g top : Int) (h : NilT w q) : Calls Try.prog 22 #[.pointer q, .int .i64 g, .int .i64 top] w fun e W' => e = .returned (.bool false) ∧ Below w.heap.size w W' :=
  callsIn_wide.1 (belowN_in Fence.wide 10 trivial trivial trivial trivial trivial rfl (by omega) w q g top h)
end Go.Proofs.Ytkkjnnmjfamkjaa
