/- The walk over the reference's Copy. -/
import Derived.Test.YtdjhkiahpidldaaZ
import Derived.Deep.DeepCutAuto
namespace Go.Proofs.Ytdjhkiahpidldaa
open Go.RowKit

attribute [local go_sem ↓] Go.wp_at_zero Go.wp_at_succ
section
variable {P : Program} {ops : Array Oper} {Q : Exit → Act → World → Prop} {md : Region.Mode} {B : World → Prop} {s : Nat}
/-- two may come up -/
theorem till_two {l : List Oper} {i j : Nat} {oi oj : Oper} {n : Nat} {L : Array Bool} {a : Act} {w : World} (hr : Region.ready md l.toArray L = [i, j]) (hoi : nth l i = some oi) (hoj : nth l j = some oj)
    (h1 : ∀ K' : Act → World → Prop, Shut (∀ a w, (i ≠ s → B w) → wpTill P md l.toArray Q B s n (L.setIfInBounds i true) a w → K' a w) → if Region.wanted oi (yielded l.toArray a.tmps) = true then Oper.wp P oi a w K' Q else K' (a.put oi.dst undef) w)
    (h2 : ∀ K' : Act → World → Prop, Shut (∀ a w, (j ≠ s → B w) → wpTill P md l.toArray Q B s n (L.setIfInBounds j true) a w → K' a w) → if Region.wanted oj (yielded l.toArray a.tmps) = true then Oper.wp P oj a w K' Q else K' (a.put oj.dst undef) w) :
    wpTill P md l.toArray Q B s (n + 1) L a w :=
  ⟨fun h0 => (by rw [hr] at h0; cases h0), fun k hk => by
    rw [hr] at hk
    rcases (by simpa using hk : k = i ∨ k = j) with rfl | rfl
    · exact wpOp_step (at_nth hoi) (fun K' hK => h1 K' (fun a w h1 h2 => hK a w ⟨h1, h2⟩))
    · exact wpOp_step (at_nth hoj) (fun K' hK => h2 K' (fun a w h1 h2 => hK a w ⟨h1, h2⟩))⟩
/-- append onto nil, of any slice -/
theorem step_clone {w : World} {o : Oper} {a : Act} {K : Act → World → Prop} {E : Prop} (hgd : o.guard = none) (s x : Operand) (t : TypeId)
    (ho : o.op = .call { callee := .builtin .append, args := #[s, x], argTypes := #[t, t] })
    (base : Nat) (e : TypeId) (i : TypeInfo) (z : Value) (size bytes : Nat) (ht : P.underlying t = some (.slice e)) (hi : P.info? e = some i) (hz : i.zero = some z)
    (hsize : i.size = size) (hby : i.bytes = bytes) (hzs : z.cells.size = size) (hsz : 0 < size) (hs : a.eval s = .slice none 0 0)
    (ad : Option Addr) (m c : Nat) (news : List Value) (hx : a.eval x = .slice ad m c) (hnil : ad = none → m = 0 ∧ c = 0) (hl : news.length = m * size) (hnews : ∀ y, ad = some y → ∀ j u, news[j]? = some u → w.cell? (y.add j) = some u) (h1 : ∀ u ∈ news, u.oneCell' = true)
    (h63 : m ≤ maxLen) (hbytes : m * bytes ≤ 140737488355328) (hbase : base ≤ w.heap.size)
    (h : ∀ v' w', w'.ownsRow base e size v' m news → w.grownBy w' none → K (a.put o.dst v') w') :
    if Region.wanted o (yielded ops a.tmps) = true then Oper.wp P o a w K Q else E := by
  have hw : Region.wanted o (yielded ops a.tmps) = true := by simp [Region.wanted, hgd]
  rw [if_pos hw]
  cases ad with
  | none =>
    obtain ⟨rfl, rfl⟩ := hnil rfl
    obtain rfl : news = [] := List.eq_nil_of_length_eq_zero (by omega)
    have hrun := run_append_owned_none (P := P) (w := w) base t o.type e i size ht hi (.slice none 0 0) 0 [] (World.ownsRow_nil _ _ _ _)
    unfold Oper.wp execOp
    simp only [ho, resolve, invoke, builtin, Sem.run_bind, Sem.run_pure, Result.andThen_ok, List.map_toArray, List.map_cons, List.map_nil, hs, hx, hrun]
    exact h _ _ (World.ownsRow_nil _ _ _ _) ⟨rfl, rfl, rfl, Nat.le_refl _, fun _ _ _ => rfl⟩
  | some y =>
    obtain ⟨v', w', hr, h2, h3, _, _⟩ := run_append_own_at (P := P) w base t o.type e i z size bytes ht hi hz hsize hby hzs hsz (.slice none 0 0) 0 [] (World.ownsRow_nil _ _ _ _) y m c news hl (hnews y rfl) h1 (by omega) (by rw [Nat.zero_add]; exact hbytes) hbase
    unfold Oper.wp execOp
    simp only [ho, resolve, invoke, builtin, Sem.run_bind, Sem.run_pure, Result.andThen_ok, List.map_toArray, List.map_cons, List.map_nil, hs, hx, hr]
    exact h _ _ (by simpa using h2) h3
end
theorem flat_len (l : List Cl) : (l.flatMap clCells).length = l.length * 4 := by
  induction l with
  | nil => rfl
  | cons x l ih => rw [List.flatMap_cons, List.length_append, ih]; simp [clCells]; omega
theorem flat_one (l : List Cl) : ∀ u ∈ l.flatMap clCells, u.oneCell' = true := fun u hu => by
  simp only [List.mem_flatMap] at hu
  obtain ⟨c, _, hc⟩ := hu
  simp only [clCells, List.mem_cons, List.not_mem_nil, or_false] at hc
  rcases hc with rfl | rfl | rfl | rfl <;> rfl
theorem calls_cells {w : World} {a : Option Addr} {l : List Cl} (h : IsCalls w a l) (y : Addr) (ha : a = some y) (j : Nat) (u : Value) (hj : (l.flatMap clCells)[j]? = some u) : w.cell? (y.add j) = some u := by
  have hjl : j < l.length * 4 := by have := (List.getElem?_eq_some_iff.1 hj).1; rwa [flat_len] at this
  obtain ⟨g, off, rfl, hc⟩ := h (by intro e; rw [e] at hjl; simp at hjl)
  obtain rfl : (⟨g, off, none⟩ : Addr) = y := Option.some.inj ha
  have hx : l[j / 4]? = some l[j / 4] := List.getElem?_eq_getElem (by omega)
  have h4 := flat_at l (j / 4) _ hx (j % 4) (by omega)
  rw [show j / 4 * 4 + j % 4 = j by omega, hj] at h4
  obtain ⟨d0, d1, d2, d3⟩ := hc _ _ hx
  have hp : (⟨g, off, none⟩ : Addr).add j = ⟨g, off + j, none⟩ := by unfold Addr.add; split <;> simp_all
  rw [hp]
  rcases (show j % 4 = 0 ∨ j % 4 = 1 ∨ j % 4 = 2 ∨ j % 4 = 3 by omega) with e | e | e | e <;> rw [e] at h4 <;> simp only [clCells, List.getElem?_cons_zero, List.getElem?_cons_succ, Option.some.injEq] at h4
  · rw [h4, show off + j = off + j / 4 * 4 by omega]; exact d0
  · rw [h4, show off + j = off + j / 4 * 4 + 1 by omega]; exact d1
  · rw [h4, show off + j = off + j / 4 * 4 + 2 by omega]; exact d2
  · rw [h4, show off + j = off + j / 4 * 4 + 3 by omega]; exact d3
/-- what stands in Copy, k lists copied -/
structure Cp (w : World) (s : Scr) (V T : Nat) (csV : Array Value) (vp : Value) (k : Nat) (vc : Value) (vs : List Value) (wr : World) : Prop where
  bV : Blk wr V csV 27
  bR : Blk wr (V + 1) #[.int .i64 0, .int .i64 0, .slice none 0 0, .slice none 0 0] 27
  bT : Blk wr T #[.int .i64 s.cpus, .int .i64 s.pages, vc, vp] 27
  pk : wr.ownsRow w.heap.size 3 1 vp s.picks.length (s.picks.map encI)
  own : wr.ownsRow w.heap.size 42 1 vc k vs
  done : ∀ j, j < k → ∀ l, s.calls[j]? = some l → ∃ u, vs[j]? = some u ∧ wr.ownsRow w.heap.size 44 4 u l.length (l.flatMap clCells)
  below : Below w.heap.size w wr
  hT : w.heap.size ≤ T
  nV : V ≠ T
  nR : V + 1 ≠ T
theorem Cp.drew {w : World} {s : Scr} {V T : Nat} {csV : Array Value} {vp : Value} {k : Nat} {vc : Value} {vs : List Value} {wr : World} (h : Cp w s V T csV vp k vc vs wr) : Cp w s V T csV vp k vc vs wr.drew :=
  ⟨h.bV, h.bR, h.bT, owns_of_heap h.pk fun _ _ => rfl, owns_of_heap h.own fun _ _ => rfl, fun j hj l hl => by obtain ⟨u, hu, ho⟩ := h.done j hj l hl; exact ⟨u, hu, owns_of_heap ho fun _ _ => rfl⟩, h.below.drew, h.hT, h.nV, h.nR⟩
theorem Cp.step {w : World} {s : Scr} {V T : Nat} {csV : Array Value} {vp : Value} {k : Nat} {vc : Value} {vs : List Value} {wr w8 w9 : World} {l : List Cl} {v8 v9 : Value} {o : Obj} (h : Cp w s V T csV vp k vc vs wr) (hl : s.calls[k]? = some l) (hg8 : wr.grownBy w8 none) (ho8 : w8.ownsRow w.heap.size 44 4 v8 l.length (l.flatMap clCells))
    (hg9 : (w8.alloc o).grownBy w9 vc.ownBlock) (ho9 : w9.ownsRow w.heap.size 42 1 v9 (k + 1) (vs ++ [v8])) : Cp w s V T csV vp (k + 1) v9 (vs ++ [v8]) (w9.setCell ⟨T, 2, none⟩ v9) := by
  have hs8 := hg8.size
  have h8 : ∀ g, g < wr.heap.size → w8.heap[g]? = wr.heap[g]? := fun g hlt => hg8.block g hlt (by simp)
  have h9 : ∀ g, g < w8.heap.size → some g ≠ vc.ownBlock → w9.heap[g]? = w8.heap[g]? := fun g hlt hne => (hg9.block g (by simp; omega) hne).trans (heap_alloc_old w8 o hlt)
  have hk : ∀ g, g < wr.heap.size → some g ≠ vc.ownBlock → w9.heap[g]? = wr.heap[g]? := fun g hlt hne => (h9 g (by omega) hne).trans (h8 g hlt)
  have own8 : w8.ownsRow w.heap.size 42 1 vc k vs := owns_of_heap h.own fun g hg => h8 g (h.own.lt g hg).2
  have bT9 : Blk w9 T #[.int .i64 s.cpus, .int .i64 s.pages, vc, vp] 27 := (hk T h.bT.lt (Ne.symm (own_blk h.own h.bT (by decide)))).trans h.bT
  have fin : ∀ g, g < w8.heap.size → some g ≠ vc.ownBlock → g ≠ T → (w9.setCell ⟨T, 2, none⟩ v9).heap[g]? = w8.heap[g]? := fun g hlt hne hgT => (Below.heap_setCell _ _ _ _ (by simpa using hgT)).trans (h9 g hlt hne)
  have keep : ∀ e size u n xs, e ≠ 42 → e ≠ 27 → w8.ownsRow w.heap.size e size u n xs → (w9.setCell ⟨T, 2, none⟩ v9).ownsRow w.heap.size e size u n xs := fun e size u n xs he he' hu => by
    refine owns_of_heap hu fun g hg => fin g (hu.lt g hg).2 (fun e2 => ?_) (fun e2 => ?_)
    · rcases owns_apart hu own8 he with h2 | h2
      · rw [h2] at hg; cases hg
      · exact h2 (hg.trans e2)
    · subst e2
      exact own_blk hu (show Blk w8 g _ 27 from (h8 g h.bT.lt).trans h.bT) he' hg
  refine ⟨(show Blk w9 V csV 27 from (hk V h.bV.lt (Ne.symm (own_blk h.own h.bV (by decide)))).trans h.bV).setOther h.nV _,
    (show Blk w9 (V + 1) _ 27 from (hk _ h.bR.lt (Ne.symm (own_blk h.own h.bR (by decide)))).trans h.bR).setOther h.nR _, bT9.set 2 v9 rfl, ?_, ?_, fun j hj l' hl' => ?_, ?_, h.hT, h.nV, h.nR⟩
  · exact keep 3 1 _ _ _ (by decide) (by decide) (owns_of_heap h.pk fun g hg => h8 g (h.pk.lt g hg).2)
  · exact ho9.kept (Only.set T 2 w9 v9).g (.inr (own_blk ho9 bT9 (by decide)))
  · have hvl : vs.length = k := by have := h.own.1; omega
    by_cases e : j = k
    · subst e
      rw [hl] at hl'
      obtain rfl : l = l' := Option.some.inj hl'
      exact ⟨v8, by rw [List.getElem?_append_right (by omega)]; simp [show j - vs.length = 0 by omega], keep 44 4 _ _ _ (by decide) (by decide) ho8⟩
    · obtain ⟨u, hu, ho⟩ := h.done j (by omega) l' hl'
      exact ⟨u, by rw [List.getElem?_append_left (by omega)]; exact hu, keep 44 4 _ _ _ (by decide) (by decide) (owns_of_heap ho fun g hg => h8 g (ho.lt g hg).2)⟩
  · have b8 : Below w.heap.size w w8 := h.below.grown hg8 h.below.size (fun g e => by cases e)
    exact ((b8.alloc b8.size o).grown hg9 (by have := b8.size; simp; omega) (fun g e => (h.own.lt g e).1)).setCell h.hT _
set_option maxRecDepth 100000 in
set_option maxHeartbeats 1000000 in
theorem copy_any (v : Value) (s : Scr) (w : World) (h : ScrAt w v s) (hn : ScrNil w v) (hz : Sz s) : Calls Try.prog 15 #[v] w fun e w' => ∃ v', e = .returned v' ∧ ScrAt w' v' s ∧ Below w.heap.size w w' := by
  obtain ⟨a1, cc1, ap1, cp1, rfl, hl1, hp1⟩ := h.val
  have hnil1 := (hn _ _ _ _ _ _ _ _ rfl).1
  have hnil2 := Lib.hid (hn _ _ _ _ _ _ _ _ rfl).2
  have hB0 : Below w.heap.size w ((w.alloc (.cells #[.int .i64 s.cpus, .int .i64 s.pages, .slice a1 s.calls.length cc1, .slice ap1 s.picks.length cp1] 27)).alloc (.cells #[.int .i64 0, .int .i64 0, .slice none 0 0, .slice none 0 0] 27)) := ((Below.refl _ _).alloc (Nat.le_refl _) _).alloc (by simp) _
  have T1 := Lib.hid ((Blk.new w #[.int .i64 s.cpus, .int .i64 s.pages, .slice a1 s.calls.length cc1, .slice ap1 s.picks.length cp1] 27).alloc (.cells #[.int .i64 0, .int .i64 0, .slice none 0 0, .slice none 0 0] 27))
  have R1 := Lib.hid (show Blk ((w.alloc (.cells #[.int .i64 s.cpus, .int .i64 s.pages, .slice a1 s.calls.length cc1, .slice ap1 s.picks.length cp1] 27)).alloc (.cells #[.int .i64 0, .int .i64 0, .slice none 0 0, .slice none 0 0] 27)) (w.heap.size + 1) #[.int .i64 0, .int .i64 0, .slice none 0 0, .slice none 0 0] 27 from by
    have := Blk.new (w.alloc (.cells #[.int .i64 s.cpus, .int .i64 s.pages, .slice a1 s.calls.length cc1, .slice ap1 s.picks.length cp1] 27)) #[.int .i64 0, .int .i64 0, .slice none 0 0, .slice none 0 0] 27
    simpa using this)
  have HP := Lib.hid (hp1.below hB0)
  have HL := Lib.hid hl1
  have BW := Lib.hid hB0
  have hc1 := h.lc
  have hlp := hp1.len
  have hzp := hz.p
  have hzc := hz.c
  have HZ := Lib.hid hz.l
  clear h hn hl1 hp1 hB0 hz
  go_enter Try.func15, Try.ntmps15
  go_upto_region 1 with fail
  generalize (w.alloc (.cells #[.int .i64 s.cpus, .int .i64 s.pages, .slice a1 s.calls.length cc1, .slice ap1 s.picks.length cp1] 27)).alloc (.cells #[.int .i64 0, .int .i64 0, .slice none 0 0, .slice none 0 0] 27) = W at *
  go_cut [3] (fun s3 wx => ∃ (T : Nat) (vp : Value), s3 = .pointer (some ⟨T, 0, none⟩) ∧ W.heap.size ≤ T ∧ Blk wx T #[.int .i64 s.cpus, .int .i64 s.pages, .slice none 0 0, vp] 27 ∧ wx.ownsRow W.heap.size 3 1 vp s.picks.length (s.picks.map encI) ∧ Below W.heap.size W wx)
  case first =>
    have TB := Lib.hid (show Blk W.drew w.heap.size #[.int .i64 s.cpus, .int .i64 s.pages, .slice a1 s.calls.length cc1, .slice ap1 s.picks.length cp1] 27 from T1.out)
    have hHB := tcells TB.out
    have B0 := Lib.hid (show Below W.heap.size W W.drew from (Below.refl _ W).drew)
    replace HP := Lib.hid (HP.out.below B0.out)
    refine till_start 9 (fun w' : World => w'.cell? ⟨w.heap.size, 0, none⟩ = some (.int .i64 s.cpus) ∧ w'.cell? ⟨w.heap.size, 1, none⟩ = some (.int .i64 s.pages) ∧ w'.cell? ⟨w.heap.size, 2, none⟩ = some (.slice a1 s.calls.length cc1) ∧ w'.cell? ⟨w.heap.size, 3, none⟩ = some (.slice ap1 s.picks.length cp1)) (by kernel_rfl) ?_
    have hsz : W.drew.heap.size = W.heap.size := rfl
    generalize W.drew = w4 at *
    refine till_take (i := 0) (v := ?_) rfl (by kernel_rfl) (by kernel_rfl) (by kernel_rfl) (by kernel_rfl) (fun _ _ _ h => h) (Or.inl ⟨by rfl, ?_⟩) hHB ?_
    rotate_left
    · (intro w hSw; (try dsimp only at hSw); go_simp; try with_reducible rfl)
    try simp only [Act.put, List.setIfInBounds_toArray, List.set_cons_zero, List.set_cons_succ]
    refine till_take (i := 1) (v := ?_) rfl (by kernel_rfl) (by kernel_rfl) (by kernel_rfl) (by kernel_rfl) (fun _ _ _ h => h) (Or.inl ⟨by rfl, ?_⟩) hHB ?_
    rotate_left
    · (intro w hSw; (try dsimp only at hSw); go_simp; try with_reducible rfl)
    try simp only [Act.put, List.setIfInBounds_toArray, List.set_cons_zero, List.set_cons_succ]
    refine till_take (i := 2) (v := ?_) rfl (by kernel_rfl) (by kernel_rfl) (by kernel_rfl) (by kernel_rfl) (fun _ _ _ h => h) (Or.inl ⟨by rfl, ?_⟩) hHB ?_
    rotate_left
    · (intro w hSw; (try dsimp only at hSw); go_simp; try with_reducible rfl)
    try simp only [Act.put, List.setIfInBounds_toArray, List.set_cons_zero, List.set_cons_succ]
    refine till_take (i := 3) (v := ?_) rfl (by kernel_rfl) (by kernel_rfl) (by kernel_rfl) (by kernel_rfl) (fun _ _ _ h => h) (Or.inl ⟨by rfl, ?_⟩) hHB ?_
    rotate_left
    · (intro w hSw; (try dsimp only at hSw); go_simp; try with_reducible rfl)
    try simp only [Act.put, List.setIfInBounds_toArray, List.set_cons_zero, List.set_cons_succ]
    refine till_take (i := 4) (v := ?_) rfl (by kernel_rfl) (by kernel_rfl) (by kernel_rfl) (by kernel_rfl) (fun _ _ _ h => h) (Or.inl ⟨by rfl, ?_⟩) hHB ?_
    rotate_left
    · (intro w hSw; (try dsimp only at hSw); go_simp; try with_reducible rfl)
    try simp only [Act.put, List.setIfInBounds_toArray, List.set_cons_zero, List.set_cons_succ]
    refine till_take (i := 5) (v := ?_) rfl (by kernel_rfl) (by kernel_rfl) (by kernel_rfl) (by kernel_rfl) (fun _ _ _ h => h) (Or.inl ⟨by rfl, ?_⟩) hHB ?_
    rotate_left
    · (intro w hSw; (try dsimp only at hSw); go_simp; try with_reducible rfl)
    try simp only [Act.put, List.setIfInBounds_toArray, List.set_cons_zero, List.set_cons_succ]
    refine till_two (i := 6) (j := 8) (by kernel_rfl) rfl rfl (fun K hK => ?_) (fun K hK => ?_)
    · go_simp
      refine (copyints_any s.picks ap1 cp1 w4 HP.out hnil1 hzp).mono ?_
      rintro e w5 ⟨vp, rfl, ho, hb⟩
      obtain ⟨ap5, cp5, rfl, _, _⟩ := owns_form ho
      have hs5 := hb.size
      replace TB := Lib.hid (TB.out.below hb)
      replace hHB := tcells TB.out
      have O5 := Lib.hid ho
      have B5 := Lib.hid (B0.out.trans (hb.mono (by omega)))
      clear ho hb
      try go_wp2_with fail
      refine hK.out _ _ (fun _ => hHB) ?_
      clear hK K
      try simp only [Act.put, List.setIfInBounds_toArray, List.set_cons_zero, List.set_cons_succ]
      refine till_take (i := 7) (v := ?_) rfl (by kernel_rfl) (by kernel_rfl) (by kernel_rfl) (by kernel_rfl) (fun _ _ _ h => h) (Or.inl ⟨by rfl, ?_⟩) hHB ?_
      rotate_left
      · (intro w hSw; (try dsimp only at hSw); go_simp; try with_reducible rfl)
      try simp only [Act.put, List.setIfInBounds_toArray, List.set_cons_zero, List.set_cons_succ]
      refine till_one (i := 8) (by kernel_rfl) rfl (fun K hK => ?_)
      go_simp
      refine hK.out _ _ (fun _ => tcells (TB.out.alloc _)) ?_
      clear hK K
      try simp only [Act.put, List.setIfInBounds_toArray, List.set_cons_zero, List.set_cons_succ]
      refine till_one (i := 9) (by kernel_rfl) rfl (fun K hK => ?_)
      go_simp
      refine hK.out _ _ (fun h => absurd rfl h) ?_
      clear hK K
      try simp only [Act.put, List.setIfInBounds_toArray, List.set_cons_zero, List.set_cons_succ]
      refine till_done (by kernel_rfl) ?_ _
      go_wp2_with fail
      go_meet
      exact ⟨w5.heap.size, _, rfl, by omega, Blk.new w5 _ 27, owns_mono (O5.out.alloc _) (by omega), B5.out.alloc (by omega) _⟩
    · go_simp
      have T4 := Lib.hid (show Blk (w4.alloc (.cells #[.int .i64 0, .int .i64 0, .slice none 0 0, .slice none 0 0] 27)) W.heap.size #[.int .i64 0, .int .i64 0, .slice none 0 0, .slice none 0 0] 27 by rw [← hsz]; exact Blk.new w4 _ 27)
      have hb4 : Below w4.heap.size w4 (w4.alloc (.cells #[.int .i64 0, .int .i64 0, .slice none 0 0, .slice none 0 0] 27)) := (Below.refl _ _).alloc (Nat.le_refl _) _
      have hs4 : (w4.alloc (.cells #[.int .i64 0, .int .i64 0, .slice none 0 0, .slice none 0 0] 27)).heap.size = W.heap.size + 1 := by simp [hsz]
      replace TB := Lib.hid (TB.out.below hb4)
      replace HP := Lib.hid (HP.out.below hb4)
      replace B0 := Lib.hid (B0.out.trans (hb4.mono (by omega)))
      replace hHB := tcells TB.out
      refine hK.out _ _ (fun _ => hHB) ?_
      clear hK K hb4
      try simp only [Act.put, List.setIfInBounds_toArray, List.set_cons_zero, List.set_cons_succ]
      generalize w4.alloc (.cells #[.int .i64 0, .int .i64 0, .slice none 0 0, .slice none 0 0] 27) = w6 at *
      refine till_one (i := 6) (by kernel_rfl) rfl (fun K hK => ?_)
      go_simp
      refine (copyints_any s.picks ap1 cp1 w6 HP.out hnil1 hzp).mono ?_
      rintro e w5 ⟨vp, rfl, ho, hb⟩
      obtain ⟨ap5, cp5, rfl, _, _⟩ := owns_form ho
      have hs5 := hb.size
      replace TB := Lib.hid (TB.out.below hb)
      replace T4 := Lib.hid (T4.out.below hb)
      replace hHB := tcells TB.out
      have O5 := Lib.hid ho
      have B5 := Lib.hid (B0.out.trans (hb.mono (by omega)))
      clear ho hb
      try go_wp2_with fail
      refine hK.out _ _ (fun _ => hHB) ?_
      clear hK K
      try simp only [Act.put, List.setIfInBounds_toArray, List.set_cons_zero, List.set_cons_succ]
      refine till_one (i := 7) (by kernel_rfl) rfl (fun K hK => ?_)
      go_simp
      refine hK.out _ _ (fun _ => hHB) ?_
      clear hK K
      try simp only [Act.put, List.setIfInBounds_toArray, List.set_cons_zero, List.set_cons_succ]
      have g := tcells T4.out
      obtain ⟨g0, g1, g2, g3⟩ := g
      have f0 := T4.out.frozen 0
      have f1 := T4.out.frozen 1
      have f2 := T4.out.frozen 2
      have f3 := T4.out.frozen 3
      refine till_one (i := 9) (by kernel_rfl) rfl (fun K hK => ?_)
      go_simp
      refine hK.out _ _ (fun h => absurd rfl h) ?_
      clear hK K
      try simp only [Act.put, List.setIfInBounds_toArray, List.set_cons_zero, List.set_cons_succ]
      refine till_done (by kernel_rfl) ?_ _
      have hne := own_blk O5.out T4.out (by decide)
      have OF := (((Only.set W.heap.size 0 w5 (.int .i64 s.cpus)).trans (Only.set W.heap.size 1 _ (.int .i64 s.pages))).trans (Only.set W.heap.size 2 _ (.slice none 0 0))).trans (Only.set W.heap.size 3 _ (.slice ap5 s.picks.length cp5))
      have BF := (((T4.out.set 0 (.int .i64 s.cpus) (cs' := #[.int .i64 s.cpus, .int .i64 0, .slice none 0 0, .slice none 0 0]) rfl).set 1 (.int .i64 s.pages) (cs' := #[.int .i64 s.cpus, .int .i64 s.pages, .slice none 0 0, .slice none 0 0]) rfl).set 2 (.slice none 0 0) (cs' := #[.int .i64 s.cpus, .int .i64 s.pages, .slice none 0 0, .slice none 0 0]) rfl).set 3 (.slice ap5 s.picks.length cp5) (cs' := #[.int .i64 s.cpus, .int .i64 s.pages, .slice none 0 0, .slice ap5 s.picks.length cp5]) rfl
      have WF := (((B5.out.setCell (p := ⟨W.heap.size, 0, none⟩) (Nat.le_refl _) (.int .i64 s.cpus)).setCell (p := ⟨W.heap.size, 1, none⟩) (Nat.le_refl _) (.int .i64 s.pages)).setCell (p := ⟨W.heap.size, 2, none⟩) (Nat.le_refl _) (.slice none 0 0)).setCell (p := ⟨W.heap.size, 3, none⟩) (Nat.le_refl _) (.slice ap5 s.picks.length cp5)
      have XF := Lib.hid (And.intro BF (And.intro (owns_mono (O5.out.kept OF.g (.inr hne)) (show W.heap.size ≤ w6.heap.size by omega)) WF))
      clear OF BF WF hne g0 g1 g2 g3 f0 f1 f2 f3
      go_wp2_with fail
      go_meet
      exact ⟨W.heap.size, _, rfl, Nat.le_refl _, XF.out.1, XF.out.2.1, XF.out.2.2⟩
  case rest =>
    obtain ⟨T, vp, rfl, hT, hTB, ho, hb⟩ := hcut
    obtain ⟨ap5, cp5, rfl, hap, hcp⟩ := owns_form ho
    have hVl := T1.out.lt
    have hRl := R1.out.lt
    have hW := BW.out.size
    have C0 := Lib.hid (show Cp w s w.heap.size T #[.int .i64 s.cpus, .int .i64 s.pages, .slice a1 s.calls.length cc1, .slice ap1 s.picks.length cp1] (.slice ap5 s.picks.length cp5) 0 (.slice none 0 0) [] wc from
      ⟨T1.out.below hb, R1.out.below hb, hTB, owns_mono ho hW, World.ownsRow_nil _ _ _ _, fun j hj => by omega, on BW.out hb, by omega, by omega, by omega⟩)
    clear hb ho hTB T1 R1 HP BW hVl hRl hW hT
    obtain ⟨V, hV⟩ : ∃ V, V = w.heap.size := ⟨_, rfl⟩
    obtain ⟨c0, hc0, hcz0, hcz1, hcz2⟩ := info_parts info44
    obtain ⟨d0, hd0, hdz0, hdz1, hdz2⟩ := info_parts info42
    go_wp2_with fail
    go_loopw [4] (fun i wr => ∃ (k : Nat) (vc : Value) (vs : List Value), k ≤ s.calls.length ∧ i = .int .i64 k ∧ Cp w s w.heap.size T #[.int .i64 s.cpus, .int .i64 s.pages, .slice a1 s.calls.length cc1, .slice ap1 s.picks.length cp1] (.slice ap5 s.picks.length cp5) k vc vs wr) (fun i _ => s.calls.length - (intOf i).toNat)
    case atStart => exact ⟨0, _, _, Nat.zero_le _, rfl, C0.out⟩
    case round =>
      clear C0
      obtain ⟨k, vc, vs, hk, rfl, hC⟩ := hrel
      obtain ⟨av, cv, rfl, _, _⟩ := owns_form hC.own
      have C := Lib.hid hC
      have t2 := hC.bV.cell (i := 2) (v := .slice a1 s.calls.length cc1) rfl
      clear hC
      by_cases hlt : k < s.calls.length
      · obtain ⟨g, off, rfl, hLs⟩ := HL.out (by intro e; rw [e] at hlt; simp at hlt)
        obtain ⟨l, hl⟩ : ∃ l, s.calls[k]? = some l := ⟨_, List.getElem?_eq_getElem hlt⟩
        obtain ⟨la, lc, c1, hI⟩ := hLs k l hl
        have hnl := hnil2.out g off rfl k hlt la _ lc c1
        have hgw : g < w.heap.size := World.block_lt_of_cell? w _ c1
        have hll := HZ.out l (List.mem_of_getElem? hl)
        have HX := Lib.hid hl
        have hnl2 : la = none → l.length = 0 ∧ lc = 0 := fun e => by
          refine ⟨?_, hnl e⟩
          by_cases h : l = []
          · rw [h]; rfl
          · obtain ⟨_, _, h2, _⟩ := hI h
            rw [e] at h2
            cases h2
        have HNL := Lib.hid hnl2
        have i0 : (0 : Int) ≤ (k : Int) := by omega
        have i1 : (k : Int) < (s.calls.length : Int) := by omega
        clear hLs hl hnl hnl2
        go_wp2_with fail
        have D := Lib.hid C.out.drew
        have s2 := below_cell D.out.below (Nat.le_refl _) c1
        have HI := Lib.hid (show IsCalls wr.drew la l from hI.keep fun _ _ _ _ hc => below_cell D.out.below (Nat.le_refl _) hc)
        have hHB := And.intro (D.out.bV.cell (i := 2) (v := .slice (some ⟨g, off, none⟩) s.calls.length cc1) rfl) (And.intro s2 (And.intro (D.out.bT.cell (i := 2) (v := .slice av k cv) rfl) (D.out.bT.frozen 2)))
        clear C t2 c1 s2 hI
        refine till_start 12 (fun w' : World => w'.cell? ⟨w.heap.size, 2, none⟩ = some (.slice (some ⟨g, off, none⟩) s.calls.length cc1) ∧ w'.cell? ⟨g, off + k, none⟩ = some (.slice la l.length lc) ∧ w'.cell? ⟨T, 2, none⟩ = some (.slice av k cv) ∧ w'.frozen? ⟨T, 2, none⟩ = false) (by kernel_rfl) ?_
        generalize wr.drew = w4 at *
        refine till_take (i := 0) (v := ?_) rfl (by kernel_rfl) (by kernel_rfl) (by kernel_rfl) (by kernel_rfl) (fun _ _ _ h => h) (Or.inl ⟨by rfl, ?_⟩) hHB ?_
        rotate_left
        · (intro w hSw; (try dsimp only at hSw); go_simp; try with_reducible rfl)
        try simp only [Act.put, List.setIfInBounds_toArray, List.set_cons_zero, List.set_cons_succ]
        refine till_take (i := 1) (v := ?_) rfl (by kernel_rfl) (by kernel_rfl) (by kernel_rfl) (by kernel_rfl) (fun _ _ _ h => h) (Or.inl ⟨by rfl, ?_⟩) hHB ?_
        rotate_left
        · (intro w hSw; (try dsimp only at hSw); go_simp; try with_reducible rfl)
        try simp only [Act.put, List.setIfInBounds_toArray, List.set_cons_zero, List.set_cons_succ]
        refine till_take (i := 2) (v := ?_) rfl (by kernel_rfl) (by kernel_rfl) (by kernel_rfl) (by kernel_rfl) (fun _ _ _ h => h) (Or.inl ⟨by rfl, ?_⟩) hHB ?_
        rotate_left
        · (intro w hSw; (try dsimp only at hSw); go_simp; try with_reducible rfl)
        try simp only [Act.put, List.setIfInBounds_toArray, List.set_cons_zero, List.set_cons_succ]
        refine till_take (i := 3) (v := ?_) rfl (by kernel_rfl) (by kernel_rfl) (by kernel_rfl) (by kernel_rfl) (fun _ _ _ h => h) (Or.inl ⟨by rfl, ?_⟩) hHB ?_
        rotate_left
        · (intro w hSw; (try dsimp only at hSw); go_simp; try with_reducible rfl)
        try simp only [Act.put, List.setIfInBounds_toArray, List.set_cons_zero, List.set_cons_succ]
        refine till_take (i := 4) (v := ?_) rfl (by kernel_rfl) (by kernel_rfl) (by kernel_rfl) (by kernel_rfl) (fun _ _ _ h => h) (Or.inl ⟨by rfl, ?_⟩) hHB ?_
        rotate_left
        · (intro w hSw; (try dsimp only at hSw); go_simp; try with_reducible rfl)
        try simp only [Act.put, List.setIfInBounds_toArray, List.set_cons_zero, List.set_cons_succ]
        refine till_take (i := 5) (v := ?_) rfl (by kernel_rfl) (by kernel_rfl) (by kernel_rfl) (by kernel_rfl) (fun _ _ _ h => h) (Or.inl ⟨by rfl, ?_⟩) hHB ?_
        rotate_left
        · (intro w hSw; (try dsimp only at hSw); go_simp; try with_reducible rfl)
        try simp only [Act.put, List.setIfInBounds_toArray, List.set_cons_zero, List.set_cons_succ]
        refine till_take (i := 6) (v := ?_) rfl (by kernel_rfl) (by kernel_rfl) (by kernel_rfl) (by kernel_rfl) (fun _ _ _ h => h) (Or.inl ⟨by rfl, ?_⟩) hHB ?_
        rotate_left
        · (intro w hSw; (try dsimp only at hSw); go_simp; try with_reducible rfl)
        try simp only [Act.put, List.setIfInBounds_toArray, List.set_cons_zero, List.set_cons_succ]
        refine till_take (i := 7) (v := ?_) rfl (by kernel_rfl) (by kernel_rfl) (by kernel_rfl) (by kernel_rfl) (fun _ _ _ h => h) (Or.inl ⟨by rfl, ?_⟩) hHB ?_
        rotate_left
        · (intro w hSw; (try dsimp only at hSw); go_simp; try with_reducible rfl)
        try simp only [Act.put, List.setIfInBounds_toArray, List.set_cons_zero, List.set_cons_succ]
        refine till_one (i := 8) (by kernel_rfl) rfl (fun K hK => ?_)
        refine step_clone (by rfl) _ _ _ (by rfl) w.heap.size 44 c0 _ 4 32 Try.underlying42 hc0 hcz0 hcz1 hcz2 rfl (by omega) (by rfl) la l.length lc (l.flatMap clCells) (by rfl) HNL.out (flat_len l) (calls_cells HI.out) (flat_one l) (by unfold maxLen; omega) hll D.out.below.size ?_
        intro v8 w8 ho8 hg8
        have hs8 := hg8.size
        obtain ⟨a8, c8, rfl, _, _⟩ := owns_form ho8
        have own8 : w8.ownsRow w.heap.size 42 1 (.slice av k cv) k vs := owns_of_heap D.out.own fun g hg => hg8.block g (D.out.own.lt g hg).2 (by simp)
        have bT8 : Blk w8 T #[.int .i64 s.cpus, .int .i64 s.pages, .slice av k cv, .slice ap5 s.picks.length cp5] 27 := (hg8.block T D.out.bT.lt (by simp)).trans D.out.bT
        have bV8 : Blk w8 w.heap.size #[.int .i64 s.cpus, .int .i64 s.pages, .slice (some ⟨g, off, none⟩) s.calls.length cc1, .slice ap1 s.picks.length cp1] 27 := (hg8.block _ D.out.bV.lt (by simp)).trans D.out.bV
        have lL : g < w4.heap.size := World.block_lt_of_cell? w4 _ hHB.2.1
        have hL8 : w8.cell? ⟨g, off + k, none⟩ = some (.slice la l.length lc) := (World.cell?_of_block (w := w4) (a := ⟨g, off + k, none⟩) (hg8.block g lL (by simp))).trans hHB.2.1
        replace hHB := And.intro (bV8.cell (i := 2) (v := .slice (some ⟨g, off, none⟩) s.calls.length cc1) rfl) (And.intro hL8 (And.intro (bT8.cell (i := 2) (v := .slice av k cv) rfl) (bT8.frozen 2)))
        have O8 := Lib.hid ho8
        have G8 := Lib.hid hg8
        have A8 := Lib.hid own8
        have T8 := Lib.hid bT8
        have V8 := Lib.hid bV8
        have hTne := own_blk own8 bT8 (by decide)
        have hT8 := bT8.lt
        have hb8 := D.out.below.size
        clear ho8 hg8 own8 bT8 bV8
        refine hK.out _ _ (fun _ => hHB) ?_
        clear hK K
        try simp only [Act.put, List.setIfInBounds_toArray, List.set_cons_zero, List.set_cons_succ]
        refine till_one (i := 9) (by kernel_rfl) rfl (fun K hK => ?_)
        go_simp
        refine hK.out _ _ (fun _ => ⟨(V8.out.alloc _).cell (i := 2) rfl, (cel_ad' _ _ _ (by omega)).trans hL8, (T8.out.alloc _).cell (i := 2) rfl, (T8.out.alloc _).frozen 2⟩) ?_
        clear hK K
        try simp only [Act.put, List.setIfInBounds_toArray, List.set_cons_zero, List.set_cons_succ]
        refine till_one (i := 10) (by kernel_rfl) rfl (fun K hK => ?_)
        (refine step_append_lies _ (by rfl) _ _ _ (by rfl) w.heap.size 42 d0 _ 1 24 Try.underlying24 hd0 hdz0 hdz1 hdz2 rfl (by omega) (.slice av k cv) k vs (by rfl) (A8.out.alloc _) ⟨w8.heap.size, 0, none⟩ 1 1 [.slice a8 l.length c8] (by rfl) (by rfl) (World.news_of_block (cs := #[.slice a8 l.length c8]) (t := 42) (fr := (0, 0)) (heap_alloc_new w8 _)) (by simp [Value.oneCell']) (by omega) (by unfold maxLen; omega) (by omega) (by simp; omega) (w8.heap.size + 1) (by simp) ?_; intro gg cc w9 ho9 hg9 _ _)
        have bT9 : Blk w9 T #[.int .i64 s.cpus, .int .i64 s.pages, .slice av k cv, .slice ap5 s.picks.length cp5] 27 := (T8.out.alloc _).grown hg9 (Ne.symm hTne)
        have hgn : (Value.slice av k cv).ownBlock ≠ some g := fun e => by have := (A8.out.lt g e).1; omega
        have hL9 := far_cell hg9 (by omega) hgn hL8
        have bV9 : Blk w9 w.heap.size #[.int .i64 s.cpus, .int .i64 s.pages, .slice (some ⟨g, off, none⟩) s.calls.length cc1, .slice ap1 s.picks.length cp1] 27 := (V8.out.alloc _).grown hg9 (Ne.symm (own_blk A8.out V8.out (by decide)))
        replace hHB := And.intro (bV9.cell (i := 2) (v := .slice (some ⟨g, off, none⟩) s.calls.length cc1) rfl) (And.intro hL9 (And.intro (bT9.cell (i := 2) (v := .slice av k cv) rfl) (bT9.frozen 2)))
        have NX := Lib.hid (D.out.step HX.out G8.out O8.out hg9 ho9)
        have s3 := bT9.cell (i := 2) (v := .slice av k cv) rfl
        have s4 := bT9.frozen 2
        clear hg9 ho9 hgn hL9 bV9 bT9 V8 T8 A8 O8 G8 hTne hT8
        refine hK.out _ _ (fun _ => hHB) ?_
        clear hK K
        try simp only [Act.put, List.setIfInBounds_toArray, List.set_cons_zero, List.set_cons_succ]
        refine till_one (i := 11) (by kernel_rfl) rfl (fun K hK => ?_)
        go_simp
        refine hK.out _ _ (fun _ => hHB) ?_
        clear hK K
        try simp only [Act.put, List.setIfInBounds_toArray, List.set_cons_zero, List.set_cons_succ]
        refine till_one (i := 12) (by kernel_rfl) rfl (fun K hK => ?_)
        go_simp
        refine hK.out _ _ (fun h => absurd rfl h) ?_
        clear hK K hHB
        try simp only [Act.put, List.setIfInBounds_toArray, List.set_cons_zero, List.set_cons_succ]
        refine till_done (by kernel_rfl) ?_ _
        go_wp2_with fail
        go_roundw
        case rel => exact ⟨k + 1, _, _, by omega, by go_num, NX.out⟩
        case measure => simp [intOf]; omega
      · obtain rfl : k = s.calls.length := by omega
        have z := tcells C.out.bT
        obtain ⟨z0, z1, z2, z3⟩ := z
        have r := tcells C.out.bR
        obtain ⟨r0, r1, r2, r3⟩ := r
        have f0 := C.out.bR.frozen 0
        have f1 := C.out.bR.frozen 1
        have f2 := C.out.bR.frozen 2
        have f3 := C.out.bR.frozen 3
        go_wp2_with fail
        have BF := (((C.out.bR.set 0 (.int .i64 s.cpus) (cs' := #[.int .i64 s.cpus, .int .i64 0, .slice none 0 0, .slice none 0 0]) rfl).set 1 (.int .i64 s.pages) (cs' := #[.int .i64 s.cpus, .int .i64 s.pages, .slice none 0 0, .slice none 0 0]) rfl).set 2 (.slice av s.calls.length cv) (cs' := #[.int .i64 s.cpus, .int .i64 s.pages, .slice av s.calls.length cv, .slice none 0 0]) rfl).set 3 (.slice ap5 s.picks.length cp5) (cs' := #[.int .i64 s.cpus, .int .i64 s.pages, .slice av s.calls.length cv, .slice ap5 s.picks.length cp5]) rfl
        have OF := (((Only.set (w.heap.size + 1) 0 wr (.int .i64 s.cpus)).trans (Only.set (w.heap.size + 1) 1 _ (.int .i64 s.pages))).trans (Only.set (w.heap.size + 1) 2 _ (.slice av s.calls.length cv))).trans (Only.set (w.heap.size + 1) 3 _ (.slice ap5 s.picks.length cp5))
        have WB := (((C.out.below.setCell (p := ⟨w.heap.size + 1, 0, none⟩) (by simp) (.int .i64 s.cpus)).setCell (p := ⟨w.heap.size + 1, 1, none⟩) (by simp) (.int .i64 s.pages)).setCell (p := ⟨w.heap.size + 1, 2, none⟩) (by simp) (.slice av s.calls.length cv)).setCell (p := ⟨w.heap.size + 1, 3, none⟩) (by simp) (.slice ap5 s.picks.length cp5)
        have KO := fun (e size n : Nat) (u : Value) (xs : List Value) (he : e ≠ 27) (h : wr.ownsRow w.heap.size e size u n xs) => h.kept OF.g (.inr (own_blk h C.out.bR he))
        have pkF := KO _ _ _ _ _ (by decide) C.out.pk
        have ownF := KO _ _ _ _ _ (by decide) C.out.own
        have doneF : ∀ j, j < s.calls.length → ∀ l, s.calls[j]? = some l → ∃ u, vs[j]? = some u ∧ ((((wr.setCell ⟨w.heap.size + 1, 0, none⟩ (.int .i64 s.cpus)).setCell ⟨w.heap.size + 1, 1, none⟩ (.int .i64 s.pages)).setCell ⟨w.heap.size + 1, 2, none⟩ (.slice av s.calls.length cv)).setCell ⟨w.heap.size + 1, 3, none⟩ (.slice ap5 s.picks.length cp5)).ownsRow w.heap.size 44 4 u l.length (l.flatMap clCells) := fun j hj l hl => by
          obtain ⟨u, hu, ho⟩ := C.out.done j hj l hl
          exact ⟨u, hu, KO _ _ _ _ _ (by decide) ho⟩
        have q := tcells BF
        clear z0 z1 z2 z3 r0 r1 r2 r3 f0 f1 f2 f3 OF KO BF C
        generalize (((wr.setCell ⟨w.heap.size + 1, 0, none⟩ (.int .i64 s.cpus)).setCell ⟨w.heap.size + 1, 1, none⟩ (.int .i64 s.pages)).setCell ⟨w.heap.size + 1, 2, none⟩ (.slice av s.calls.length cv)).setCell ⟨w.heap.size + 1, 3, none⟩ (.slice ap5 s.picks.length cp5) = WF at *
        obtain ⟨q0, q1, q2, q3⟩ := q
        refine bodyPost_ret (v := .agg #[.int .i64 s.cpus, .int .i64 s.pages, .slice av s.calls.length cv, .slice ap5 s.picks.length cp5]) (by simp [results, Try.results15, go_sem, q0, q1, q2, q3]) rfl ?_
        refine ⟨_, rfl, ⟨⟨av, cv, ap5, cp5, rfl, fun hne => ?_, isSl_of_own pkF rfl⟩, hc1, fun l hl => by have := HZ.out l hl; omega⟩, WB⟩
        obtain ⟨g, hg⟩ := own_some ownF (List.length_pos_iff.2 hne)
        subst hg
        refine ⟨g, 0, rfl, fun i l hi => ?_⟩
        have hil := (List.getElem?_eq_some_iff.1 hi).1
        obtain ⟨u, hu, ho⟩ := doneF i hil l hi
        obtain ⟨a2, cap2, rfl, hc2, _⟩ := calls_of_owns ho rfl
        refine ⟨a2, cap2, ?_, hc2⟩
        rw [Nat.zero_add, ownF.cellAt i (by omega)]
        exact hu
end Go.Proofs.Ytdjhkiahpidldaa
