/- OrderRow. -/
import Derived.Test.YthmkmjoeceghiaaRJ
import Derived.Deep.DeepCutAuto
import Derived.IntWalk
namespace Go.Proofs.Ythmkmjoeceghiaa
open Go.RowKit

attribute [local go_sem ↓] Go.wp_at_zero Go.wp_at_succ
theorem info50r : (Try.prog.info? 50).map (fun i => (i.zero, i.size, i.bytes)) = some (some (.agg #[.int .i64 0, .int .i64 0, .int .i64 0, .int .i64 0, .int .i64 0, .int .i64 0]), 6, 48) := by kernel_rfl
theorem own_other {w : World} {b b' : Nat} {e e' : TypeId} {s s' n n' : Nat} {v v' : Value} {xs xs' : List Value} (h : w.ownsRow b e s v n xs) (h' : w.ownsRow b' e' s' v' n' xs') (hne : e ≠ e') : v.ownBlock = none ∨ v.ownBlock ≠ v'.ownBlock := by
  cases hv : v.ownBlock with
  | none => exact .inl rfl
  | some g =>
    refine .inr fun he => ?_
    obtain ⟨cs, t, h1, h2⟩ := own_cells h g hv
    obtain ⟨cs', t', h3, h4⟩ := own_cells h' g he.symm
    rw [h1] at h3
    injection h3 with h3
    injection h3 with _ h3
    exact hne (h2.symm.trans (h3.trans h4))
theorem n_of_ints {w : World} {base k : Nat} {v : Value} {r : List Nat} (h : w.ownsRow base 3 1 v k ((ints r).map encI)) : w.ownsRow base 3 1 v (ints r).length ((ints r).map encI) := by
  have h1 := h.1
  rw [List.length_map, Nat.mul_one] at h1
  rw [h1]; exact h
/-- k deeds are laid, as deeds, as calls, as places -/
structure Rw (l : List Dd) (w : World) (k : Nat) (dv rv ov : Value) (wr : World) : Prop where
  d : wr.ownsRow w.heap.size 32 4 dv k (((l.take k).map br1).flatMap ddCells)
  r : wr.ownsRow w.heap.size 50 6 rv k ((rowS ((l.take k).map br1)).flatMap spCells)
  o : wr.ownsRow w.heap.size 3 1 ov k ((List.range k).map encN)
  below : Below w.heap.size w wr
section
variable {l : List Dd} {w wr w' : World} {k : Nat} {dv rv ov : Value}
theorem Rw.below' (h : Rw l w k dv rv ov wr) (hb : Below wr.heap.size wr w') : Rw l w k dv rv ov w' :=
  ⟨owns_below h.d hb, owns_below h.r hb, owns_below h.o hb, on2 h.below hb⟩
/-- a block of its own is written -/
theorem Rw.set (h : Rw l w k dv rv ov wr) {T : Nat} {cs : Array Value} (hT : Blk wr T cs 32) (hd : dv.ownBlock ≠ some T) (hw : w.heap.size ≤ T) (hg : wr.grownBy w' (some T)) : Rw l w k dv rv ov w' :=
  ⟨h.d.kept hg (.inr hd), h.r.kept hg (.inr (own_blk h.r hT (by decide))), h.o.kept hg (.inr (own_blk h.o hT (by decide))), h.below.grown hg h.below.size (fun g e => by cases e; exact hw)⟩
theorem Rw.step (h : Rw l w k dv rv ov wr) {x : Dd} (hx : l[k]? = some x) {w1 w2 w3 : World} {dv' rv' ov' : Value} {o1 o2 o3 : Obj}
    (g1 : (wr.alloc o1).grownBy w1 dv.ownBlock) (p1 : w1.ownsRow w.heap.size 32 4 dv' (k + 1) (((l.take k).map br1).flatMap ddCells ++ ddCells (br1 x)))
    (g2 : (w1.alloc o2).grownBy w2 rv.ownBlock) (p2 : w2.ownsRow w.heap.size 50 6 rv' (k + 1) ((rowS ((l.take k).map br1)).flatMap spCells ++ spCells (br1 x, 2 * (k : Int), 2 * (k : Int) + 1)))
    (g3 : (w2.alloc o3).grownBy w3 ov.ownBlock) (p3 : w3.ownsRow w.heap.size 3 1 ov' (k + 1) ((List.range k).map encN ++ [encN k])) : Rw l w (k + 1) dv' rv' ov' w3 := by
  have hk : k < l.length := (List.getElem?_eq_some_iff.1 hx).1
  have ht : (l.take (k + 1)).map br1 = (l.take k).map br1 ++ [br1 x] := by rw [take_succ hx, List.map_append]; rfl
  have hlen : ((l.take k).map br1).length = k := by rw [List.length_map, List.length_take]; omega
  have vb : ∀ {e : TypeId} {s n : Nat} {v : Value} {xs : List Value}, wr.ownsRow w.heap.size e s v n xs → ∀ g, v.ownBlock = some g → w.heap.size ≤ g := fun h g e => (h.lt g e).1
  -- rv and ov behind the first append
  have r1 := (h.r.alloc o1).kept g1 (own_other h.r h.d (by decide))
  have q1 := (h.o.alloc o1).kept g1 (own_other h.o h.d (by decide))
  have b1 : Below w.heap.size w w1 := (h.below.alloc h.below.size o1).grown g1 (by have := h.below.size; simp; omega) (fun g e => vb h.d g e)
  -- dv' and ov behind the second
  have d2 := (p1.alloc o2).kept g2 (own_other p1 r1 (by decide))
  have q2 := (q1.alloc o2).kept g2 (own_other q1 r1 (by decide))
  have b2 : Below w.heap.size w w2 := (b1.alloc b1.size o2).grown g2 (by have := b1.size; simp; omega) (fun g e => (r1.lt g e).1)
  have d3 := (d2.alloc o3).kept g3 (own_other d2 q2 (by decide))
  have r3 := (p2.alloc o3).kept g3 (own_other p2 q2 (by decide))
  have b3 : Below w.heap.size w w3 := (b2.alloc b2.size o3).grown g3 (by have := b2.size; simp; omega) (fun g e => (q2.lt g e).1)
  refine ⟨?_, ?_, ?_, b3⟩
  · rw [ht, List.flatMap_append]; simpa using d3
  · rw [ht, rowS_add, hlen, List.flatMap_append]; simpa using r3
  · rw [List.range_succ, List.map_append]; exact p3
end
set_option maxRecDepth 100000 in
set_option maxHeartbeats 4000000 in
theorem orderrow_any (l : List Dd) (a : Option Addr) (cap : Nat) (w : World) (hl : l.length < 5000000000000) (hw : WfD l) (hI : IsDeeds w a l) :
    Calls Try.prog 12 #[.slice a l.length cap] w (LinesIs w) := by
  obtain ⟨i0, hi, hz0, hz1, hz2⟩ := info_parts info32
  obtain ⟨j0, hj, hy0, hy1, hy2⟩ := info_parts info50r
  obtain ⟨k0, hk, hx0, hx1, hx2⟩ := info_parts info3
  have HI := Lib.hid hI
  have HWF := Lib.hid hw
  obtain ⟨n, hn⟩ : ∃ n, n = min l.length 40 := ⟨_, rfl⟩
  have hn1 : n ≤ l.length := by omega
  have hn2 : n ≤ 40 := by omega
  have hn3 : n < 40 → l.length ≤ n := by omega
  clear hI hw hn
  go_enter Try.func12, Try.ntmps12
  go_wp2_with fail
  go_loopw [3, 4, 5, 6] (fun dv rv ov iv wr => ∃ k : Nat, k ≤ n ∧ iv = .int .i64 k ∧ Rw l w k dv rv ov wr) (fun _ _ _ iv _ => n - (intOf iv).toNat)
  case atStart => exact ⟨0, Nat.zero_le _, rfl, ⟨World.ownsRow_nil _ _ _ _, World.ownsRow_nil _ _ _ _, World.ownsRow_nil _ _ _ _, Below.refl _ _⟩⟩
  case round =>
    obtain ⟨k, hkn, rfl, hR⟩ := hrel
    have RR := Lib.hid hR
    obtain ⟨da, dk, rfl, -, -⟩ := owns_form hR.d
    obtain ⟨ra, rk, rfl, -, -⟩ := owns_form hR.r
    obtain ⟨oa, ok, rfl, -, -⟩ := owns_form hR.o
    clear hR
    by_cases hlt : k < n
    · obtain ⟨⟨x0, x1⟩, hx⟩ : ∃ x, l[k]? = some x := ⟨_, List.getElem?_eq_getElem (by omega)⟩
      have HX := Lib.hid hx
      obtain ⟨g, off, rfl, hc⟩ := (HI.out.below RR.out.below) (by intro e; rw [e] at hx; simp at hx)
      obtain ⟨d0, d1, d2, d3⟩ := hc k _ hx
      dsimp only at d0 d1 d2 d3
      have z0 : (0 : Int) ≤ (k : Int) := by omega
      have z1 : (k : Int) < (l.length : Int) := by omega
      have z2 : (k : Int) < 40 := by omega
      have e1 := Int.emod_nonneg x0 (show (4 : Int) ≠ 0 by decide)
      have e2 := Int.emod_lt_of_pos x0 (show (0 : Int) < 4 by decide)
      obtain ⟨m, hm⟩ : ∃ m, m = 1 + x0 % 4 := ⟨_, rfl⟩
      have hwr : IntKind.i64.wrap (1 + x0 % 4) = m := by rw [IntWalk.i64_in _ (by omega), hm]
      have HM := Lib.hid hm
      clear hm hc hx
      go_upto_region 7 with fail
      have kB : ∀ w' : World, Below wr.heap.size wr w' → w'.cell? ⟨g, off + k * 4, none⟩ = some (.int .i64 x0) ∧ w'.cell? ⟨g, off + k * 4 + 1, none⟩ = some (.int .i64 x1.1) ∧ w'.cell? ⟨g, off + k * 4 + 2, none⟩ = some (.int .i64 x1.2.1) ∧ w'.cell? ⟨g, off + k * 4 + 3, none⟩ = some (.int .i64 x1.2.2) := fun w' h =>
        ⟨below_cell h (Nat.le_refl _) d0, below_cell h (Nat.le_refl _) d1, below_cell h (Nat.le_refl _) d2, below_cell h (Nat.le_refl _) d3⟩
      have hHB := kB _ (Below.refl _ wr).drew
      have KB := Lib.hid kB
      clear kB d0 d1 d2 d3
      go_cut [7] (fun s7 wx => ∃ T, s7 = .pointer (some ⟨T, 0, none⟩) ∧ wr.heap.size ≤ T ∧ Blk wx T #[.int .i64 m, .int .i64 x1.1, .int .i64 x1.2.1, .int .i64 x1.2.2] 32 ∧ Below wr.heap.size wr wx)
      case first =>
        refine till_start 14 (fun w' : World => w'.cell? ⟨g, off + k * 4, none⟩ = some (.int .i64 x0) ∧ w'.cell? ⟨g, off + k * 4 + 1, none⟩ = some (.int .i64 x1.1) ∧ w'.cell? ⟨g, off + k * 4 + 2, none⟩ = some (.int .i64 x1.2.1) ∧ w'.cell? ⟨g, off + k * 4 + 3, none⟩ = some (.int .i64 x1.2.2)) (by kernel_rfl) ?_
        have hHB2 := KB.out _ ((Below.refl _ wr).drew.alloc (by simp) (.cells #[.int .i64 0, .int .i64 0, .int .i64 0, .int .i64 0] 32))
        have HZ := Lib.hid hHB2
        clear hHB2
        refine till_take (i := 0) (v := ?_) rfl (by kernel_rfl) (by kernel_rfl) (by kernel_rfl) (by kernel_rfl) (fun _ _ _ h => h) (Or.inl ⟨by rfl, ?_⟩) hHB ?_
        rotate_left
        · (intro w hSw; (try dsimp only at hSw); go_simp; try with_reducible rfl)
        try simp only [Act.put, List.setIfInBounds_toArray, List.set_cons_zero, List.set_cons_succ]
        refine till_take (i := 1) (v := ?_) rfl (by kernel_rfl) (by kernel_rfl) (by kernel_rfl) (by kernel_rfl) (fun _ _ _ h => h) (Or.inl ⟨by rfl, ?_⟩) hHB ?_
        rotate_left
        · (intro w hSw; (try dsimp only at hSw); go_simp; try with_reducible rfl)
        try simp only [Act.put, List.setIfInBounds_toArray, List.set_cons_zero, List.set_cons_succ]
        refine till_take (i := 2) (v := ?_) rfl (by kernel_rfl) (by kernel_rfl) (by kernel_rfl) (by kernel_rfl) (fun _ _ _ h => h) (Or.inl ⟨by rfl, ?_⟩) hHB ?_
        rotate_left
        · (intro w hSw; (try dsimp only at hSw); go_simp; try with_reducible rfl)
        try simp only [Act.put, List.setIfInBounds_toArray, List.set_cons_zero, List.set_cons_succ]
        refine till_take (i := 3) (v := ?_) rfl (by kernel_rfl) (by kernel_rfl) (by kernel_rfl) (by kernel_rfl) (fun _ _ _ h => h) (Or.inl ⟨by rfl, ?_⟩) hHB ?_
        rotate_left
        · (intro w hSw; (try dsimp only at hSw); go_simp; try with_reducible rfl)
        try simp only [Act.put, List.setIfInBounds_toArray, List.set_cons_zero, List.set_cons_succ]
        refine till_take (i := 4) (v := ?_) rfl (by kernel_rfl) (by kernel_rfl) (by kernel_rfl) (by kernel_rfl) (fun _ _ _ h => h) (Or.inl ⟨by rfl, ?_⟩) hHB ?_
        rotate_left
        · (intro w hSw; (try dsimp only at hSw); go_simp; try with_reducible rfl)
        try simp only [Act.put, List.setIfInBounds_toArray, List.set_cons_zero, List.set_cons_succ]
        refine till_take (i := 7) (v := ?_) rfl (by kernel_rfl) (by kernel_rfl) (by kernel_rfl) (by kernel_rfl) (fun _ _ _ h => h) (Or.inl ⟨by rfl, ?_⟩) hHB ?_
        rotate_left
        · (intro w hSw; (try dsimp only at hSw); go_simp; try with_reducible rfl)
        try simp only [Act.put, List.setIfInBounds_toArray, List.set_cons_zero, List.set_cons_succ]
        refine till_take (i := 8) (v := ?_) rfl (by kernel_rfl) (by kernel_rfl) (by kernel_rfl) (by kernel_rfl) (fun _ _ _ h => h) (Or.inl ⟨by rfl, ?_⟩) hHB ?_
        rotate_left
        · (intro w hSw; (try dsimp only at hSw); go_simp; try with_reducible rfl)
        try simp only [Act.put, List.setIfInBounds_toArray, List.set_cons_zero, List.set_cons_succ]
        refine till_take (i := 9) (v := ?_) rfl (by kernel_rfl) (by kernel_rfl) (by kernel_rfl) (by kernel_rfl) (fun _ _ _ h => h) (Or.inl ⟨by rfl, ?_⟩) hHB ?_
        rotate_left
        · (intro w hSw; (try dsimp only at hSw); go_simp; try with_reducible rfl)
        try simp only [Act.put, List.setIfInBounds_toArray, List.set_cons_zero, List.set_cons_succ]
        refine till_take (i := 10) (v := ?_) rfl (by kernel_rfl) (by kernel_rfl) (by kernel_rfl) (by kernel_rfl) (fun _ _ _ h => h) (Or.inl ⟨by rfl, ?_⟩) hHB ?_
        rotate_left
        · (intro w hSw; (try dsimp only at hSw); go_simp; try with_reducible rfl)
        try simp only [Act.put, List.setIfInBounds_toArray, List.set_cons_zero, List.set_cons_succ]
        refine till_take (i := 11) (v := ?_) rfl (by kernel_rfl) (by kernel_rfl) (by kernel_rfl) (by kernel_rfl) (fun _ _ _ h => h) (Or.inl ⟨by rfl, ?_⟩) hHB ?_
        rotate_left
        · (intro w hSw; (try dsimp only at hSw); go_simp; try with_reducible rfl)
        try simp only [Act.put, List.setIfInBounds_toArray, List.set_cons_zero, List.set_cons_succ]
        refine till_two (i := 5) (j := 13) (by kernel_rfl) rfl rfl (fun K hK => ?_) (fun K hK => ?_)
        · go_simp
          refine (bring_any x0 4 _ (by decide) (by decide)).mono ?_
          rintro e wX ⟨rfl, rfl⟩
          try go_wp2_with fail
          refine hK.out _ _ (fun _ => hHB) ?_
          clear hK K
          try simp only [Act.put, List.setIfInBounds_toArray, List.set_cons_zero, List.set_cons_succ]
          refine till_take (i := 6) (v := ?_) rfl (by kernel_rfl) (by kernel_rfl) (by kernel_rfl) (by kernel_rfl) (fun _ _ _ h => h) (Or.inl ⟨by rfl, ?_⟩) hHB ?_
          rotate_left
          · (intro w hSw; (try dsimp only at hSw); go_simp; try with_reducible rfl)
          try simp only [Act.put, List.setIfInBounds_toArray, List.set_cons_zero, List.set_cons_succ]
          refine till_take (i := 12) (v := ?_) rfl (by kernel_rfl) (by kernel_rfl) (by kernel_rfl) (by kernel_rfl) (fun _ _ _ h => h) (Or.inl ⟨by rfl, ?_⟩) hHB ?_
          rotate_left
          · (intro w hSw; (try dsimp only at hSw); go_simp; try with_reducible rfl)
          try simp only [Act.put, List.setIfInBounds_toArray, List.set_cons_zero, List.set_cons_succ]
          refine till_one (i := 13) (by kernel_rfl) rfl (fun K hK => ?_)
          go_simp
          refine hK.out _ _ (fun _ => HZ.out) ?_
          clear hK K
          try simp only [Act.put, List.setIfInBounds_toArray, List.set_cons_zero, List.set_cons_succ]
          clear hHB
          refine till_one (i := 14) (by kernel_rfl) rfl (fun K hK => ?_)
          go_simp
          refine hK.out _ _ (fun h => absurd rfl h) ?_
          clear hK K
          try simp only [Act.put, List.setIfInBounds_toArray, List.set_cons_zero, List.set_cons_succ]
          refine till_done (by kernel_rfl) ?_ _
          clear hwr
          go_wp2_with fail
          go_meet
          exact ⟨_, rfl, Nat.le_refl _, Blk.new wr _ 32, ((Below.refl _ wr).alloc (Nat.le_refl _) _).drew⟩
        · go_simp
          refine hK.out _ _ (fun _ => HZ.out) ?_
          clear hK K
          try simp only [Act.put, List.setIfInBounds_toArray, List.set_cons_zero, List.set_cons_succ]
          refine till_one (i := 5) (by kernel_rfl) rfl (fun K hK => ?_)
          go_simp
          refine (bring_any x0 4 _ (by decide) (by decide)).mono ?_
          rintro e wX ⟨rfl, rfl⟩
          try go_wp2_with fail
          refine hK.out _ _ (fun _ => HZ.out) ?_
          clear hK K
          try simp only [Act.put, List.setIfInBounds_toArray, List.set_cons_zero, List.set_cons_succ]
          have hHB := HZ.out
          refine till_take (i := 6) (v := ?_) rfl (by kernel_rfl) (by kernel_rfl) (by kernel_rfl) (by kernel_rfl) (fun _ _ _ h => h) (Or.inl ⟨by rfl, ?_⟩) hHB ?_
          rotate_left
          · (intro w hSw; (try dsimp only at hSw); go_simp; try with_reducible rfl)
          try simp only [Act.put, List.setIfInBounds_toArray, List.set_cons_zero, List.set_cons_succ]
          refine till_take (i := 12) (v := ?_) rfl (by kernel_rfl) (by kernel_rfl) (by kernel_rfl) (by kernel_rfl) (fun _ _ _ h => h) (Or.inl ⟨by rfl, ?_⟩) hHB ?_
          rotate_left
          · (intro w hSw; (try dsimp only at hSw); go_simp; try with_reducible rfl)
          try simp only [Act.put, List.setIfInBounds_toArray, List.set_cons_zero, List.set_cons_succ]
          clear hHB
          refine till_one (i := 14) (by kernel_rfl) rfl (fun K hK => ?_)
          go_simp
          refine hK.out _ _ (fun h => absurd rfl h) ?_
          clear hK K
          try simp only [Act.put, List.setIfInBounds_toArray, List.set_cons_zero, List.set_cons_succ]
          refine till_done (by kernel_rfl) ?_ _
          clear hwr
          go_wp2_with fail
          go_meet
          exact ⟨_, rfl, Nat.le_refl _, Blk.new wr _ 32, ((Below.refl _ wr).alloc (Nat.le_refl _) _).drew⟩
      case rest =>
        obtain ⟨T, rfl, hTs, hT, hb⟩ := hcut
        have RC := Lib.hid (RR.out.below' hb)
        have hTd : (Value.slice da k dk).ownBlock ≠ some T := fun e => by have := (RR.out.d.lt T e).2; omega
        have hTw : w.heap.size ≤ T := by have := RR.out.below.size; omega
        have TB := Lib.hid hT
        have r0 : wc.cell? ⟨T, 0, none⟩ = some (.int .i64 m) := hT.cell (i := 0) rfl
        have r1 : wc.cell? ⟨T, 1, none⟩ = some (.int .i64 x1.1) := hT.cell (i := 1) rfl
        have r2 : wc.cell? ⟨T, 2, none⟩ = some (.int .i64 x1.2.1) := hT.cell (i := 2) rfl
        have r3 : wc.cell? ⟨T, 3, none⟩ = some (.int .i64 x1.2.2) := hT.cell (i := 3) rfl
        have f1 := hT.frozen 1
        have f2 := hT.frozen 2
        have f3 := hT.frozen 3
        obtain ⟨d, hd⟩ : ∃ d, d = br1 (x0, x1) := ⟨_, rfl⟩
        have HD := Lib.hid hd
        have HDM := Lib.hid (show d = (m, if m = 2 then (0, 0, 0) else x1) by rw [hd, HM.out]; rfl)
        clear hT hb KB hHB hwr hd RR
        go_upto_if 37 with fail
        go_cut [] (fun wx => Blk wx T #[.int .i64 d.1, .int .i64 d.2.1, .int .i64 d.2.2.1, .int .i64 d.2.2.2] 32 ∧ Rw l w k (.slice da k dk) (.slice ra k rk) (.slice oa k ok) wx)
        case first =>
          by_cases hk2 : m = 2
          · have eT := Lib.hid (show (#[.int .i64 d.1, .int .i64 d.2.1, .int .i64 d.2.2.1, .int .i64 d.2.2.2] : Array Value) = #[.int .i64 m, .int .i64 0, .int .i64 0, .int .i64 0] by rw [HDM.out, if_pos hk2])
            have e2 : (m == 2) = true := by simpa using hk2
            have gS := Lib.hid (show wc.grownBy (((wc.setCell ⟨T, 1, none⟩ (.int .i64 0)).setCell ⟨T, 2, none⟩ (.int .i64 0)).setCell ⟨T, 3, none⟩ (.int .i64 0)) (some T) from grown_trans (grown_trans (set_grown wc T 1 _) (set_grown _ T 2 _)) (set_grown _ T 3 _))
            have bS := Lib.hid (show Blk (((wc.setCell ⟨T, 1, none⟩ (.int .i64 0)).setCell ⟨T, 2, none⟩ (.int .i64 0)).setCell ⟨T, 3, none⟩ (.int .i64 0)) T #[.int .i64 m, .int .i64 0, .int .i64 0, .int .i64 0] 32 from ((TB.out.set 1 (.int .i64 0) rfl).set 2 (.int .i64 0) rfl).set 3 (.int .i64 0) rfl)
            clear hk2
            go_wp2_with fail
            go_meet
            exact ⟨by rw [eT.out]; exact bS.out, RC.out.set TB.out hTd hTw gS.out⟩
          · have eT := Lib.hid (show (#[.int .i64 d.1, .int .i64 d.2.1, .int .i64 d.2.2.1, .int .i64 d.2.2.2] : Array Value) = #[.int .i64 m, .int .i64 x1.1, .int .i64 x1.2.1, .int .i64 x1.2.2] by rw [HDM.out, if_neg hk2])
            have e2 : (m == 2) = false := by simpa using hk2
            clear hk2
            go_wp2_with fail
            go_meet
            exact ⟨by rw [eT.out]; exact TB.out, RC.out⟩
        case rest =>
          obtain ⟨hT, hR⟩ := hcut
          have TD := Lib.hid hT
          have RD := Lib.hid hR
          clear hT hR RC TB r0 r1 r2 r3 f1 f2 f3
          have hsz := RD.out.below.size
          have r0 : wc.cell? ⟨T, 0, none⟩ = some (.int .i64 d.1) := TD.out.cell (i := 0) rfl
          have r1 : wc.cell? ⟨T, 1, none⟩ = some (.int .i64 d.2.1) := TD.out.cell (i := 1) rfl
          have r2 : wc.cell? ⟨T, 2, none⟩ = some (.int .i64 d.2.2.1) := TD.out.cell (i := 2) rfl
          have r3 : wc.cell? ⟨T, 3, none⟩ = some (.int .i64 d.2.2.2) := TD.out.cell (i := 3) rfl
          go_upto_region 11 with (at_builtin; refine wpList_append_own _ rfl _ _ 22 rfl w.heap.size 32 i0 _ 4 32 Try.underlying22 hi hz0 hz1 hz2 rfl (by omega) _ _ _ rfl (RD.out.d.alloc _) ⟨wc.heap.size, 0, none⟩ 1 1 (ddCells d) rfl rfl (World.news_of_block (cs := #[.int .i64 d.1, .int .i64 d.2.1, .int .i64 d.2.2.1, .int .i64 d.2.2.2]) (t := 32) (fr := (0, 0)) (by simpa using heap_alloc_new wc _)) (by simp [Value.oneCell', ddCells]) (by unfold maxLen; omega) (by omega) (by simp; omega) ?_; intro v1 wd p1 g1 _)
          have G1 := Lib.hid g1
          have P1 := Lib.hid p1
          have TE := Lib.hid ((TD.out.alloc (.cells #[.int .i64 d.1, .int .i64 d.2.1, .int .i64 d.2.2.1, .int .i64 d.2.2.2] 32)).grown g1 (Ne.symm hTd))
          have R1 := Lib.hid ((RD.out.r.alloc (.cells #[.int .i64 d.1, .int .i64 d.2.1, .int .i64 d.2.2.1, .int .i64 d.2.2.2] 32)).kept g1 (own_other RD.out.r RD.out.d (by decide)))
          have O1 := Lib.hid ((RD.out.o.alloc (.cells #[.int .i64 d.1, .int .i64 d.2.1, .int .i64 d.2.2.1, .int .i64 d.2.2.2] 32)).kept g1 (own_other RD.out.o RD.out.d (by decide)))
          have hs1 : w.heap.size ≤ wd.heap.size := by have := g1.size; simp at this; omega
          clear g1 p1 r0 r1 r2 r3
          have r0 : wd.cell? ⟨T, 0, none⟩ = some (.int .i64 d.1) := TE.out.cell (i := 0) rfl
          have r1 : wd.cell? ⟨T, 1, none⟩ = some (.int .i64 d.2.1) := TE.out.cell (i := 1) rfl
          have r2 : wd.cell? ⟨T, 2, none⟩ = some (.int .i64 d.2.2.1) := TE.out.cell (i := 2) rfl
          have r3 : wd.cell? ⟨T, 3, none⟩ = some (.int .i64 d.2.2.2) := TE.out.cell (i := 3) rfl
          go_upto_region 12 with (at_builtin; refine wpList_append_own _ rfl _ _ 45 rfl w.heap.size 50 j0 _ 6 48 Try.underlying45 hj hy0 hy1 hy2 rfl (by decide) _ _ _ rfl (R1.out.alloc _) ⟨wd.heap.size, 0, none⟩ 1 1 (spCells (d, 2 * (k : Int), 2 * (k : Int) + 1)) rfl rfl (World.news_of_block (cs := #[.int .i64 d.1, .int .i64 d.2.1, .int .i64 d.2.2.1, .int .i64 d.2.2.2, .int .i64 (2 * (k : Int)), .int .i64 (2 * (k : Int) + 1)]) (t := 50) (fr := (0, 0)) (by simpa using heap_alloc_new wd _)) (by simp [Value.oneCell', spCells]) (by unfold maxLen; omega) (by omega) (by simp; omega) ?_; intro v2 we p2 g2 _)
          have G2 := Lib.hid g2
          have P2 := Lib.hid p2
          have O2 := Lib.hid ((O1.out.alloc (.cells #[.int .i64 d.1, .int .i64 d.2.1, .int .i64 d.2.2.1, .int .i64 d.2.2.2, .int .i64 (2 * (k : Int)), .int .i64 (2 * (k : Int) + 1)] 50)).kept g2 (own_other O1.out R1.out (by decide)))
          have hs2 : w.heap.size ≤ we.heap.size := by have := g2.size; simp at this; omega
          clear g2 p2 r0 r1 r2 r3
          go_wp2_with (at_builtin; refine wpList_append_own _ rfl _ _ 46 rfl w.heap.size 3 k0 _ 1 8 Try.underlying46 hk hx0 hx1 hx2 rfl (by omega) _ _ _ rfl (O2.out.alloc _) ⟨we.heap.size, 0, none⟩ 1 1 [encN k] rfl rfl (World.news_of_block (cs := #[encN k]) (t := 3) (fr := (0, 0)) (by simpa using heap_alloc_new we _)) (by simp [Value.oneCell']) (by unfold maxLen; omega) (by omega) (by simp; omega) ?_; intro v3 wf p3 g3 _)
          have LN := Lib.hid (RD.out.step HX.out G1.out (by rw [← HD.out]; exact P1.out) G2.out (by rw [← HD.out]; exact P2.out) g3 p3)
          clear g3 p3
          go_roundw
          case rel => exact ⟨k + 1, by omega, by go_num, LN.out⟩
          case measure => simp [intOf]; omega
    · obtain rfl : k = n := by omega
      obtain ⟨ds, hds⟩ : ∃ ds, ds = (l.take k).map br1 := ⟨_, rfl⟩
      have hdl : ds.length = k := by rw [hds, List.length_map, List.length_take]; omega
      have WD := Lib.hid (show WfD ds from fun d hd => by
        rw [hds] at hd
        obtain ⟨d', hd', rfl⟩ := List.mem_map.1 hd
        exact br1_wf (HWF.out d' (List.mem_of_mem_take hd')))
      have FD := Lib.hid (show ∀ d ∈ ds, Fine d from fun d hd => by
        rw [hds] at hd
        obtain ⟨d', _, rfl⟩ := List.mem_map.1 hd
        exact br1_fine d')
      have WS := Lib.hid (show WfS (rowS ds) from fun x hx => by
        obtain ⟨i, hi, rfl⟩ := List.getElem_of_mem hx
        rw [rowS_len] at hi
        have h1 := rowS_at hi
        rw [sp_at (List.getElem?_eq_getElem (by rw [rowS_len]; exact hi))] at h1
        rw [h1]; exact WD.out _ (List.getElem_mem hi))
      have hR := RR.out.r
      have hD := RR.out.d
      rw [← hds] at hR hD
      have ID := Lib.hid (isDeeds_of_owns hD hdl)
      have IS := Lib.hid (isSpans_own hR)
      have IOo := Lib.hid (show IsSl encI wr oa (ints (List.range k)) from by
        have ho := RR.out.o
        rw [ints_enc] at ho
        obtain ⟨a', c', hv, hs, _, _⟩ := isSl_of_owns (xs := ints (List.range k)) (n_of_ints ho)
        obtain ⟨rfl, -⟩ : oa = a' ∧ ok = c' := by injection hv with h1 _ h3; exact ⟨h1, h3⟩
        exact hs)
      have BR := Lib.hid RR.out.below
      have HDL := Lib.hid hdl
      clear hds hR hD hdl RR
      have hpl := play_any ds da dk
      rw [HDL.out] at hpl
      obtain ⟨p1, hp1⟩ : ∃ p, p = (playR ds).1 := ⟨_, rfl⟩
      rw [← hp1] at hpl
      clear hp1
      have hln := line_any (rowS ds) ra rk
      rw [rowS_len, HDL.out] at hln
      by_cases hok : (playR ds).2 = 0
      · have YE := Lib.hid (row_yes FD.out (by rw [HDL.out]; exact hn2) ((playR_okL ds).1 hok))
        rw [hok] at hpl
        clear hok
        by_cases h40 : k < 40
        · have q1 : ¬ (k : Int) < (l.length : Int) := by omega
          go_wp2_with fail
          refine (hpl wr (by unfold maxLen; omega) WD.out ID.out).mono ?_
          rintro e w2 ⟨rfl, hb⟩
          have B2 := Lib.hid (on2 BR.out hb)
          have S2 := Lib.hid (IS.out.below hb)
          have Q2 := Lib.hid (IOo.out.below hb)
          clear hb hpl
          go_wp2_with fail
          refine (hln w2 (by omega) WS.out S2.out).mono ?_
          rintro e w3 he
          obtain ⟨ua, uk, rfl, hs, hb⟩ := he.open_
          rw [YE.out.2] at hs
          rw [YE.out.1, YE.out.2]
          have U3 := Lib.hid hs
          have B3 := Lib.hid (on2 B2.out hb)
          have Q3 := Lib.hid (Q2.out.below hb)
          have NL := Lib.hid (show (ints (List.range ds.length)).length = k by rw [ints_len, List.length_range, HDL.out])
          have NK := Lib.hid (show (ints (List.range k)).length = k by rw [ints_len, List.length_range])
          rw [List.length_range, HDL.out]
          clear he hs hb hln
          go_wp2_with fail
          refine (eqints_at (ints (List.range ds.length)) (ints (List.range k)) true ua oa k k uk ok w3 NL.out NK.out (decide_eq_true (by rw [HDL.out])) U3.out Q3.out).mono ?_
          rintro e w4 ⟨rfl, hb⟩
          have B4 := Lib.hid (on2 B3.out hb)
          clear hb
          go_wp2_with fail
          refine (works28_any w4).mono ?_
          rintro e w5 ⟨rfl, hb⟩
          have B5 := Lib.hid (on2 B4.out hb)
          clear hb
          go_wp2_with fail
          go_ret
          exact ⟨rfl, B5.out⟩
        · have q40 : ¬ (k : Int) < 40 := by omega
          by_cases q1 : (k : Int) < (l.length : Int)
          ·
            go_wp2_with fail
            refine (hpl wr (by unfold maxLen; omega) WD.out ID.out).mono ?_
            rintro e w2 ⟨rfl, hb⟩
            have B2 := Lib.hid (on2 BR.out hb)
            have S2 := Lib.hid (IS.out.below hb)
            have Q2 := Lib.hid (IOo.out.below hb)
            clear hb hpl
            go_wp2_with fail
            refine (hln w2 (by omega) WS.out S2.out).mono ?_
            rintro e w3 he
            obtain ⟨ua, uk, rfl, hs, hb⟩ := he.open_
            rw [YE.out.2] at hs
            rw [YE.out.1, YE.out.2]
            have U3 := Lib.hid hs
            have B3 := Lib.hid (on2 B2.out hb)
            have Q3 := Lib.hid (Q2.out.below hb)
            have NL := Lib.hid (show (ints (List.range ds.length)).length = k by rw [ints_len, List.length_range, HDL.out])
            have NK := Lib.hid (show (ints (List.range k)).length = k by rw [ints_len, List.length_range])
            rw [List.length_range, HDL.out]
            clear he hs hb hln
            go_wp2_with fail
            refine (eqints_at (ints (List.range ds.length)) (ints (List.range k)) true ua oa k k uk ok w3 NL.out NK.out (decide_eq_true (by rw [HDL.out])) U3.out Q3.out).mono ?_
            rintro e w4 ⟨rfl, hb⟩
            have B4 := Lib.hid (on2 B3.out hb)
            clear hb
            go_wp2_with fail
            refine (works28_any w4).mono ?_
            rintro e w5 ⟨rfl, hb⟩
            have B5 := Lib.hid (on2 B4.out hb)
            clear hb
            go_wp2_with fail
            go_ret
            exact ⟨rfl, B5.out⟩
          ·
            go_wp2_with fail
            refine (hpl wr (by unfold maxLen; omega) WD.out ID.out).mono ?_
            rintro e w2 ⟨rfl, hb⟩
            have B2 := Lib.hid (on2 BR.out hb)
            have S2 := Lib.hid (IS.out.below hb)
            have Q2 := Lib.hid (IOo.out.below hb)
            clear hb hpl
            go_wp2_with fail
            refine (hln w2 (by omega) WS.out S2.out).mono ?_
            rintro e w3 he
            obtain ⟨ua, uk, rfl, hs, hb⟩ := he.open_
            rw [YE.out.2] at hs
            rw [YE.out.1, YE.out.2]
            have U3 := Lib.hid hs
            have B3 := Lib.hid (on2 B2.out hb)
            have Q3 := Lib.hid (Q2.out.below hb)
            have NL := Lib.hid (show (ints (List.range ds.length)).length = k by rw [ints_len, List.length_range, HDL.out])
            have NK := Lib.hid (show (ints (List.range k)).length = k by rw [ints_len, List.length_range])
            rw [List.length_range, HDL.out]
            clear he hs hb hln
            go_wp2_with fail
            refine (eqints_at (ints (List.range ds.length)) (ints (List.range k)) true ua oa k k uk ok w3 NL.out NK.out (decide_eq_true (by rw [HDL.out])) U3.out Q3.out).mono ?_
            rintro e w4 ⟨rfl, hb⟩
            have B4 := Lib.hid (on2 B3.out hb)
            clear hb
            go_wp2_with fail
            refine (works28_any w4).mono ?_
            rintro e w5 ⟨rfl, hb⟩
            have B5 := Lib.hid (on2 B4.out hb)
            clear hb
            go_wp2_with fail
            go_ret
            exact ⟨rfl, B5.out⟩
      · have NE := Lib.hid (row_no FD.out (by rw [HDL.out]; exact hn2) (fun h => hok ((playR_okL ds).2 h)))
        obtain ⟨p2, hp2⟩ : ∃ p, p = (playR ds).2 := ⟨_, rfl⟩
        rw [← hp2] at hpl hok
        have t2 : (p2 != 0) = true := by simpa using hok
        clear hok hp2
        by_cases h40 : k < 40
        · have q1 : ¬ (k : Int) < (l.length : Int) := by omega
          go_wp2_with fail
          refine (hpl wr (by unfold maxLen; omega) WD.out ID.out).mono ?_
          rintro e w2 ⟨rfl, hb⟩
          have B2 := Lib.hid (on2 BR.out hb)
          have S2 := Lib.hid (IS.out.below hb)
          have Q2 := Lib.hid (IOo.out.below hb)
          clear hb hpl
          go_wp2_with fail
          refine (hln w2 (by omega) WS.out S2.out).mono ?_
          rintro e w3 he
          obtain ⟨ua, uk, rfl, hs, hb⟩ := he.open_
          rw [NE.out.1, NE.out.2]
          have B3 := Lib.hid (on2 B2.out hb)
          rw [List.length_nil]
          clear he hs hb hln
          go_wp2_with fail
          refine (works28_any w3).mono ?_
          rintro e w5 ⟨rfl, hb⟩
          have B5 := Lib.hid (on2 B3.out hb)
          clear hb
          go_wp2_with fail
          go_ret
          exact ⟨rfl, B5.out⟩
        · have q40 : ¬ (k : Int) < 40 := by omega
          by_cases q1 : (k : Int) < (l.length : Int)
          ·
            go_wp2_with fail
            refine (hpl wr (by unfold maxLen; omega) WD.out ID.out).mono ?_
            rintro e w2 ⟨rfl, hb⟩
            have B2 := Lib.hid (on2 BR.out hb)
            have S2 := Lib.hid (IS.out.below hb)
            have Q2 := Lib.hid (IOo.out.below hb)
            clear hb hpl
            go_wp2_with fail
            refine (hln w2 (by omega) WS.out S2.out).mono ?_
            rintro e w3 he
            obtain ⟨ua, uk, rfl, hs, hb⟩ := he.open_
            rw [NE.out.1, NE.out.2]
            have B3 := Lib.hid (on2 B2.out hb)
            rw [List.length_nil]
            clear he hs hb hln
            go_wp2_with fail
            refine (works28_any w3).mono ?_
            rintro e w5 ⟨rfl, hb⟩
            have B5 := Lib.hid (on2 B3.out hb)
            clear hb
            go_wp2_with fail
            go_ret
            exact ⟨rfl, B5.out⟩
          ·
            go_wp2_with fail
            refine (hpl wr (by unfold maxLen; omega) WD.out ID.out).mono ?_
            rintro e w2 ⟨rfl, hb⟩
            have B2 := Lib.hid (on2 BR.out hb)
            have S2 := Lib.hid (IS.out.below hb)
            have Q2 := Lib.hid (IOo.out.below hb)
            clear hb hpl
            go_wp2_with fail
            refine (hln w2 (by omega) WS.out S2.out).mono ?_
            rintro e w3 he
            obtain ⟨ua, uk, rfl, hs, hb⟩ := he.open_
            rw [NE.out.1, NE.out.2]
            have B3 := Lib.hid (on2 B2.out hb)
            rw [List.length_nil]
            clear he hs hb hln
            go_wp2_with fail
            refine (works28_any w3).mono ?_
            rintro e w5 ⟨rfl, hb⟩
            have B5 := Lib.hid (on2 B3.out hb)
            clear hb
            go_wp2_with fail
            go_ret
            exact ⟨rfl, B5.out⟩
end Go.Proofs.Ythmkmjoeceghiaa
