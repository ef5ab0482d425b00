/- Add, Offline, New. -/
import Derived.Test.YtkkjnnmjfamkjaaD
import Derived.Test.YtkkjnnmjfamkjaaKT
import Derived.Test.YtkkjnnmjfamkjaaAO
import Derived.IntWalk
namespace Go.Proofs.Ytkkjnnmjfamkjaa
open Go.RowKit Go.Shelf

theorem info51 : (Try.prog.info? 51).map (fun i => (i.zero, i.size, i.bytes)) = some (some (.agg #[.int .i64 0, .int .i64 0, .bool false]), 3, 24) := by kernel_rfl
theorem frz_ad' (w : World) (o : Obj) (i : Nat) {g : Nat} (h : g < w.heap.size) : (w.alloc o).frozen? ⟨g, i, none⟩ = w.frozen? ⟨g, i, none⟩ := World.frozen?_of_block (w := w) (heap_alloc_old w o h)
theorem cel_ad' (w : World) (o : Obj) (i : Nat) {g : Nat} (h : g < w.heap.size) : (w.alloc o).cell? ⟨g, i, none⟩ = w.cell? ⟨g, i, none⟩ := World.cell?_of_block (w := w) (heap_alloc_old w o h)
/-- a tree that was made by New and Add lies at B -/
structure Tr (w : World) (base B : Nat) (T : List Gp) : Prop where
  hb : base ≤ B
  wf : WfT T
  at' : ∃ q cap, TrAt w base B q cap T
theorem Tr.keep {w w' : World} {base B : Nat} {T : List Gp} (h : Tr w base B T) {ts : List TypeId} (hk : KeepT ts w w') (h1 : 49 ∉ ts) (h2 : 51 ∉ ts) : Tr w' base B T :=
  ⟨h.hb, h.wf, by obtain ⟨q, cap, ht⟩ := h.at'; exact ⟨q, cap, hk.blk ht.blk h1, hk.owns ht.own h2⟩⟩
theorem Tr.below {w w' : World} {base B : Nat} {T : List Gp} (h : Tr w base B T) (hb : Below w.heap.size w w') : Tr w' base B T := h.keep (ts := []) (KeepT.below hb) (by simp) (by simp)
theorem WfT.ne {T : List Gp} (h : WfT T) : T ≠ [] := by intro e; have := h.root; rw [e] at this; simp at this
/-- Add -/
def addT (T : List Gp) (p : Int) : Int × Int × List Gp := match gAt T p with
  | none => (0, 110, T)
  | some x => if x.2.2 then (0, 110, T) else if T.length = 16 ∨ x.2.1 = 8 then (0, 5, T) else (T.length + 1, 0, T ++ [(p, x.2.1 + 1, false)])
theorem addT_wf {T : List Gp} (h : WfT T) (p : Int) : WfT (addT T p).2.2 := by
  unfold addT
  cases hg : gAt T p with
  | none => exact h
  | some x =>
    simp only
    split
    · exact h
    split
    · exact h
    · rename_i h1 h2
      obtain ⟨l1, l2, l3⟩ := gAt_lt hg
      have hp := h.parent hg
      have hpos := List.length_pos_iff.2 h.ne
      have keep : ∀ g y, gAt T g = some y → gAt (T ++ [(p, x.2.1 + 1, false)]) g = some y := fun g y hy => by
        obtain ⟨a, b, c⟩ := gAt_lt hy
        unfold gAt
        rw [if_pos a, List.getElem?_append_left (by omega)]
        exact c
      refine ⟨by have := h.le; simp; omega, by rw [List.getElem?_append_left hpos]; exact h.root, fun i y hy h1 => ?_⟩
      by_cases hi : i < T.length
      · rw [List.getElem?_append_left hi] at hy
        obtain ⟨a, b, c, d, z, hz, hd⟩ := h.up i y hy h1
        exact ⟨a, b, c, d, z, keep _ _ hz, hd⟩
      · have hil : i < T.length + 1 := by have := (List.getElem?_eq_some_iff.1 hy).1; simpa using this
        obtain rfl : i = T.length := by omega
        rw [List.getElem?_append_right (Nat.le_refl _)] at hy
        simp at hy
        subst hy
        exact ⟨l1, l2, by simp; omega, by simp; omega, x, keep _ _ hg, rfl⟩
theorem TrAt.added {w w0 w1 : World} {base B q cap g cap' : Nat} {T : List Gp} {x : Gp} (h : TrAt w base B q cap T) (hbB : base ≤ B) (h0 : Below w.heap.size w w0) (hg : w0.grownBy w1 (some q))
    (ho : w1.ownsRow base 51 3 (.slice (some ⟨g, 0, none⟩) (T.length + 1) cap') (T.length + 1) (T.flatMap gpCells ++ gpCells x)) :
    TrAt (w1.setCell ⟨B, 0, none⟩ (.slice (some ⟨g, 0, none⟩) (T.length + 1) cap')) base B g cap' (T ++ [x]) ∧ Step [49, 51] base w (w1.setCell ⟨B, 0, none⟩ (.slice (some ⟨g, 0, none⟩) (T.length + 1) cap')) := by
  have hqb := h.own.lt q rfl
  have hBl := h.blk.lt
  have b0 : Blk w0 B #[.slice (some ⟨q, 0, none⟩) T.length cap] 49 := h.blk.below h0
  have o0 : w0.ownsRow base 51 3 (.slice (some ⟨q, 0, none⟩) T.length cap) T.length (T.flatMap gpCells) := owns_below h.own h0
  have hne : B ≠ q := fun e => own_blk o0 b0 (by decide) (by rw [e]; rfl)
  have b1 : Blk w1 B #[.slice (some ⟨q, 0, none⟩) T.length cap] 49 := b0.grown hg (by simpa using hne)
  refine ⟨⟨?_, ?_⟩, ?_, ?_⟩
  · have := b1.set 0 (.slice (some ⟨g, 0, none⟩) (T.length + 1) cap') rfl
    simpa using this
  · have := ho.kept (Only.set B 0 w1 (.slice (some ⟨g, 0, none⟩) (T.length + 1) cap')).g (.inr (own_blk ho b1 (by decide)))
    simpa [List.flatMap_append] using this
  · exact (((h0.mono (by omega)).grown hg (by have := h0.size; omega) (fun k e => by cases e; exact hqb.1)).setCell (p := ⟨B, 0, none⟩) hbB _)
  · exact ((KeepT.below h0).trans (KeepT.grown o0 hg (by simp))).trans (KeepT.set b1 (by simp) 0 _)
theorem flat_gl (T : List Gp) : (T.flatMap gpCells).length = T.length * 3 := by
  induction T with
  | nil => rfl
  | cons x l ih => rw [List.flatMap_cons, List.length_append, ih]; simp [gpCells]; omega
theorem TrAt.grpFlat {w : World} {base B q cap : Nat} {T : List Gp} (h : TrAt w base B q cap T) {g : Int} {x : Gp} (hg : gAt T g = some x) : w.cell? ⟨q, (g.toNat - 1) * 3 + 1, none⟩ = (T.flatMap gpCells)[(g.toNat - 1) * 3 + 1]? := by
  have h3 := gAt_lt hg
  exact h.own.cellAt _ (by omega)
theorem own_blk_ne {w : World} {base B q cap : Nat} {T : List Gp} (h : TrAt w base B q cap T) : B ≠ q := fun e => own_blk h.own h.blk (by decide) (by rw [e]; rfl)
set_option maxRecDepth 100000 in
set_option maxHeartbeats 1000000 in
theorem add_any (w : World) (base B : Nat) (T : List Gp) (p : Int) (h : Tr w base B T) :
    Calls Try.prog 11 #[.pointer (some ⟨B, 0, none⟩), .int .i64 p] w fun e w' => e = .returned (.tuple #[.int .i64 (addT T p).1, .int .i64 (addT T p).2.1]) ∧ Tr w' base B (addT T p).2.2 ∧ Step [49, 51] base w w' := by
  obtain ⟨hbB, wf, q, cap, ht⟩ := h
  have hN := callsIn_wide.1 (none_in Fence.wide 10 trivial rfl w base B q cap T ht wf.ne wf.le)
  have WF := Lib.hid wf
  have TT := Lib.hid ht
  have HT := Lib.hid (show Tr w base B T from ⟨hbB, wf, q, cap, ht⟩)
  have hle := wf.le
  cases hg : gAt T p with
  | none =>
    have hO := callsIn_wide.1 (of_none_in Fence.wide 10 trivial trivial rfl (by omega) w base B q cap T p ht wf.ne wf.le hg)
    have HR := Lib.hid (show addT T p = (0, 110, T) by unfold addT; rw [hg])
    clear wf ht hg
    go_enter Try.func11, Try.ntmps11
    go_wp2_with fail
    refine hN.mono ?_
    rintro e w1 ⟨rfl, rfl⟩
    clear hN
    go_wp2_with fail
    refine hO.mono ?_
    rintro e w1 ⟨rfl, rfl⟩
    clear hO
    go_wp2_with fail
    go_ret2
    rw [HR.out]
    exact ⟨rfl, HT.out, Step.refl _ _ _⟩
  | some x =>
    have hO := callsIn_wide.1 (of_in Fence.wide 10 trivial trivial rfl (by omega) w base B q cap T p x ht wf.ne wf.le hg)
    obtain ⟨c0, c1, c2⟩ := ht.grp hg
    have cB := ht.blk.cell (i := 0) rfl
    have fB := ht.blk.frozen 0
    have lB := ht.blk.lt
    have lq := (ht.own.lt q rfl).2
    have hpr := wf.parent hg
    simp at cB
    obtain ⟨px, dx, ox⟩ := x
    simp only at c0 c1 c2 hpr
    cases ox with
    | true =>
      have HR := Lib.hid (show addT T p = (0, 110, T) by unfold addT; rw [hg]; rfl)
      clear wf ht hg
      go_enter Try.func11, Try.ntmps11
      go_wp2_with fail
      refine hN.mono ?_
      rintro e w1 ⟨rfl, rfl⟩
      clear hN
      go_wp2_with fail
      refine hO.mono ?_
      rintro e w1 ⟨rfl, rfl⟩
      clear hO
      go_wp2_with fail
      go_ret2
      rw [HR.out]
      exact ⟨rfl, HT.out, Step.refl _ _ _⟩
    | false =>
      by_cases h16 : T.length = 16
      · have HR := Lib.hid (show addT T p = (0, 5, T) by unfold addT; rw [hg]; simp [h16])
        have hb : ((T.length : Int) == 16) = true := by simp; omega
        clear wf ht hg
        go_enter Try.func11, Try.ntmps11
        go_wp2_with fail
        refine hN.mono ?_
        rintro e w1 ⟨rfl, rfl⟩
        clear hN
        go_wp2_with fail
        refine hO.mono ?_
        rintro e w1 ⟨rfl, rfl⟩
        clear hO
        go_wp2_with fail
        go_ret2
        rw [HR.out]
        exact ⟨rfl, HT.out, Step.refl _ _ _⟩
      · have hb : ((T.length : Int) == 16) = false := by simp; omega
        by_cases h8 : dx = 8
        · have HR := Lib.hid (show addT T p = (0, 5, T) by unfold addT; rw [hg]; simp [h8])
          have hb8 : (dx == 8) = true := by simpa using h8
          have H8 := Lib.hid h8
          clear wf ht hg h8
          go_enter Try.func11, Try.ntmps11
          go_wp2_with fail
          refine hN.mono ?_
          rintro e w1 ⟨rfl, rfl⟩
          clear hN
          go_wp2_with fail
          refine hO.mono ?_
          rintro e w1 ⟨rfl, rfl⟩
          clear hO
          go_wp2_with fail
          go_ret2
          rw [HR.out]
          exact ⟨rfl, HT.out, Step.refl _ _ _⟩
        · have HR := Lib.hid (show addT T p = ((T.length : Int) + 1, (0 : Int), T ++ [(p, dx + 1, false)]) by unfold addT; rw [hg]; simp [h16, h8])
          have hb8 : (dx == 8) = false := by simpa using h8
          have WF2 := Lib.hid (show WfT (T ++ [(p, dx + 1, false)]) from by have := addT_wf wf p; rwa [HR.out] at this)
          have hown := ht.own
          have OW := Lib.hid ht.own
          have HG := Lib.hid hg
          have hB0 := hown.lt q rfl
          clear wf ht hg hown h16
          obtain ⟨i0, hi, hz0, hz1, hz2⟩ := info_parts info51
          go_enter Try.func11, Try.ntmps11
          go_wp2_with fail
          refine hN.mono ?_
          rintro e w1 ⟨rfl, rfl⟩
          clear hN
          go_wp2_with fail
          refine hO.mono ?_
          rintro e w1 ⟨rfl, rfl⟩
          clear hO
          go_wp2_with fail
          have hHB : (fun w' : World => w'.cell? ⟨B, 0, none⟩ = some (.slice (some ⟨q, 0, none⟩) T.length cap) ∧ w'.frozen? ⟨B, 0, none⟩ = false ∧ w'.cell? ⟨q, (p.toNat - 1) * 3 + 1, none⟩ = some (.int .i64 dx)) w.drew := ⟨cB, fB, c1⟩
          refine till_start 16 (fun w' : World => w'.cell? ⟨B, 0, none⟩ = some (.slice (some ⟨q, 0, none⟩) T.length cap) ∧ w'.frozen? ⟨B, 0, none⟩ = false ∧ w'.cell? ⟨q, (p.toNat - 1) * 3 + 1, none⟩ = some (.int .i64 dx)) (by kernel_rfl) ?_
          refine till_take (i := 0) (v := ?_) rfl (by kernel_rfl) (by kernel_rfl) (by kernel_rfl) (by kernel_rfl) (fun _ _ _ h => h) (Or.inl ⟨by rfl, ?_⟩) hHB ?_
          rotate_left
          · (intro w hSw; (try dsimp only at hSw); go_simp; try with_reducible rfl)
          try simp only [Act.put, List.setIfInBounds_toArray, List.set_cons_zero, List.set_cons_succ]
          refine till_take (i := 1) (v := ?_) rfl (by kernel_rfl) (by kernel_rfl) (by kernel_rfl) (by kernel_rfl) (fun _ _ _ h => h) (Or.inl ⟨by rfl, ?_⟩) hHB ?_
          rotate_left
          · (intro w hSw; (try dsimp only at hSw); go_simp; try with_reducible rfl)
          try simp only [Act.put, List.setIfInBounds_toArray, List.set_cons_zero, List.set_cons_succ]
          refine till_take (i := 2) (v := ?_) rfl (by kernel_rfl) (by kernel_rfl) (by kernel_rfl) (by kernel_rfl) (fun _ _ _ h => h) (Or.inl ⟨by rfl, ?_⟩) hHB ?_
          rotate_left
          · (intro w hSw; (try dsimp only at hSw); go_simp; try with_reducible rfl)
          try simp only [Act.put, List.setIfInBounds_toArray, List.set_cons_zero, List.set_cons_succ]
          refine till_take (i := 3) (v := ?_) rfl (by kernel_rfl) (by kernel_rfl) (by kernel_rfl) (by kernel_rfl) (fun _ _ _ h => h) (Or.inl ⟨by rfl, ?_⟩) hHB ?_
          rotate_left
          · (intro w hSw; (try dsimp only at hSw); go_simp; try with_reducible rfl)
          try simp only [Act.put, List.setIfInBounds_toArray, List.set_cons_zero, List.set_cons_succ]
          refine till_take (i := 4) (v := ?_) rfl (by kernel_rfl) (by kernel_rfl) (by kernel_rfl) (by kernel_rfl) (fun _ _ _ h => h) (Or.inl ⟨by rfl, ?_⟩) hHB ?_
          rotate_left
          · (intro w hSw; (try dsimp only at hSw); go_simp; try with_reducible rfl)
          try simp only [Act.put, List.setIfInBounds_toArray, List.set_cons_zero, List.set_cons_succ]
          refine till_take (i := 5) (v := ?_) rfl (by kernel_rfl) (by kernel_rfl) (by kernel_rfl) (by kernel_rfl) (fun _ _ _ h => h) (Or.inl ⟨by rfl, ?_⟩) hHB ?_
          rotate_left
          · (intro w hSw; (try dsimp only at hSw); go_simp; try with_reducible rfl)
          try simp only [Act.put, List.setIfInBounds_toArray, List.set_cons_zero, List.set_cons_succ]
          refine till_take (i := 6) (v := ?_) rfl (by kernel_rfl) (by kernel_rfl) (by kernel_rfl) (by kernel_rfl) (fun _ _ _ h => h) (Or.inl ⟨by rfl, ?_⟩) hHB ?_
          rotate_left
          · (intro w hSw; (try dsimp only at hSw); go_simp; try with_reducible rfl)
          try simp only [Act.put, List.setIfInBounds_toArray, List.set_cons_zero, List.set_cons_succ]
          refine till_take (i := 7) (v := ?_) rfl (by kernel_rfl) (by kernel_rfl) (by kernel_rfl) (by kernel_rfl) (fun _ _ _ h => h) (Or.inl ⟨by rfl, ?_⟩) hHB ?_
          rotate_left
          · (intro w hSw; (try dsimp only at hSw); go_simp; try with_reducible rfl)
          try simp only [Act.put, List.setIfInBounds_toArray, List.set_cons_zero, List.set_cons_succ]
          refine till_take (i := 8) (v := ?_) rfl (by kernel_rfl) (by kernel_rfl) (by kernel_rfl) (by kernel_rfl) (fun _ _ _ h => h) (Or.inl ⟨by rfl, ?_⟩) hHB ?_
          rotate_left
          · (intro w hSw; (try dsimp only at hSw); go_simp; try with_reducible rfl)
          try simp only [Act.put, List.setIfInBounds_toArray, List.set_cons_zero, List.set_cons_succ]
          refine till_take (i := 9) (v := ?_) rfl (by kernel_rfl) (by kernel_rfl) (by kernel_rfl) (by kernel_rfl) (fun _ _ _ h => h) (Or.inl ⟨by rfl, ?_⟩) hHB ?_
          rotate_left
          · (intro w hSw; (try dsimp only at hSw); go_simp; try with_reducible rfl)
          try simp only [Act.put, List.setIfInBounds_toArray, List.set_cons_zero, List.set_cons_succ]
          refine till_take (i := 10) (v := ?_) rfl (by kernel_rfl) (by kernel_rfl) (by kernel_rfl) (by kernel_rfl) (fun _ _ _ h => h) (Or.inl ⟨by rfl, ?_⟩) hHB ?_
          rotate_left
          · (intro w hSw; (try dsimp only at hSw); go_simp; try with_reducible rfl)
          try simp only [Act.put, List.setIfInBounds_toArray, List.set_cons_zero, List.set_cons_succ]
          refine till_take (i := 11) (v := ?_) rfl (by kernel_rfl) (by kernel_rfl) (by kernel_rfl) (by kernel_rfl) (fun _ _ _ h => h) (Or.inl ⟨by rfl, ?_⟩) hHB ?_
          rotate_left
          · (intro w hSw; (try dsimp only at hSw); go_simp; try with_reducible rfl)
          try simp only [Act.put, List.setIfInBounds_toArray, List.set_cons_zero, List.set_cons_succ]
          clear hHB
          refine till_one (i := 12) (by kernel_rfl) rfl (fun K hK => ?_)
          go_simp
          refine hK.out _ _ (fun _ => ⟨(cel_ad' _ _ _ lB).trans cB, (frz_ad' _ _ _ lB).trans fB, (cel_ad' _ _ _ lq).trans c1⟩) ?_
          clear hK K
          try simp only [Act.put, List.setIfInBounds_toArray, List.set_cons_zero, List.set_cons_succ]
          refine till_one (i := 13) (by kernel_rfl) rfl (fun K hK => ?_)
          (refine step_append_old (by rfl) _ _ _ (by rfl) base 51 i0 _ 3 24 Try.underlying47 hi hz0 hz1 hz2 rfl (by omega) q T.length cap _ (by rfl) ((OW.out.alloc _).drew)
                ⟨w.heap.size, 0, none⟩ 1 1 [.int .i64 p, .int .i64 (IntKind.i64.wrap (dx + 1)), .bool false] (by rfl) (by rfl) (World.news_of_block (cs := #[.int .i64 p, .int .i64 (IntKind.i64.wrap (dx + 1)), .bool false]) (t := 51) (fr := (0, 0)) (heap_alloc_new w _)) (by simp [Value.oneCell'])
                (by omega) (by unfold maxLen; omega) (by omega) (by simp; omega) (w.heap.size + 1) (by simp) ?_; intro gg cc w1 hown1 hgrow hat hlt hold)
          have hqB : B ≠ q := own_blk_ne TT.out
          have hcw : w1.cell? ⟨B, 0, none⟩ = some (.slice (some ⟨q, 0, none⟩) T.length cap) := (by rw [hgrow.cell_far _ (by simp; omega) (by simpa using hqB)]; exact (cel_ad' _ _ _ lB).trans cB)
          have hfw : w1.frozen? ⟨B, 0, none⟩ = false := (by rw [hgrow.frozen_far _ (by simp; omega) (by simpa using hqB)]; exact (frz_ad' _ _ _ lB).trans fB)
          have hdw : w1.cell? ⟨q, (p.toNat - 1) * 3 + 1, none⟩ = some (.int .i64 dx) := (hold _ _ (by rw [← c1]; exact (TT.out.grpFlat HG.out).symm))
          refine hK.out _ _ (fun _ => ⟨hcw, hfw, hdw⟩) ?_
          clear hK K
          try simp only [Act.put, List.setIfInBounds_toArray, List.set_cons_zero, List.set_cons_succ]
          refine till_one (i := 14) (by kernel_rfl) rfl (fun K hK => ?_)
          go_simp
          refine hK.out _ _ (fun _ => ⟨hcw, hfw, hdw⟩) ?_
          clear hK K
          try simp only [Act.put, List.setIfInBounds_toArray, List.set_cons_zero, List.set_cons_succ]
          refine till_one (i := 15) (by kernel_rfl) rfl (fun K hK => ?_)
          go_simp
          refine hK.out _ _ (fun _ => ⟨hcw, hfw, hdw⟩) ?_
          clear hK K
          try simp only [Act.put, List.setIfInBounds_toArray, List.set_cons_zero, List.set_cons_succ]
          refine till_one (i := 16) (by kernel_rfl) rfl (fun K hK => ?_)
          go_simp
          refine hK.out _ _ (fun h => absurd rfl h) ?_
          clear hK K
          try simp only [Act.put, List.setIfInBounds_toArray, List.set_cons_zero, List.set_cons_succ]
          refine till_done (by kernel_rfl) ?_ _
          have hdx : IntKind.i64.wrap (dx + 1) = dx + 1 := IntWalk.i64_in _ (by omega)
          rw [hdx] at hown1 hgrow
          have hA := TT.out.added (x := (p, dx + 1, false)) hbB (((Below.refl _ w).alloc (Nat.le_refl _) _).drew) hgrow hown1
          have A1 := Lib.hid hA.1
          have A2 := Lib.hid hA.2
          have cN := hA.1.blk.cell (i := 0) rfl
          simp at cN
          have cN' : (w1.setCell ⟨B, 0, none⟩ (.slice (some ⟨gg, 0, none⟩) (T.length + 1) cc)).cell? ⟨B, 0, none⟩ = some (.slice (some ⟨gg, 0, none⟩) (T.length + 1) cc) := by simpa using A1.out.blk.cell (i := 0) rfl
          clear hA cN hown1 hgrow hold hcw hfw hdw
          generalize w1.setCell ⟨B, 0, none⟩ (.slice (some ⟨gg, 0, none⟩) (T.length + 1) cc) = W9 at *
          go_wp2_with fail
          go_ret2
          rw [HR.out]
          exact ⟨by simp, ⟨hbB, WF2.out, gg, cc, A1.out⟩, A2.out⟩
theorem owns_set {w : World} {base q n cap size : Nat} {e : TypeId} {xs : List Value} (h : w.ownsRow base e size (.slice (some ⟨q, 0, none⟩) n cap) n xs) (k : Nat) (u : Value) :
    (w.setCell ⟨q, k, none⟩ u).ownsRow base e size (.slice (some ⟨q, 0, none⟩) n cap) n (xs.set k u) := by
  obtain ⟨h1, h2⟩ := h
  rcases h2 with ⟨hn, _⟩ | ⟨g0, cap0, cur, he, hb, hg0, hnc, hcm, hcs, htk⟩
  · cases hn
  · obtain ⟨rfl, rfl⟩ : q = g0 ∧ cap = cap0 := by injection he with a b c; injection a with a; injection a with a; exact ⟨a, c⟩
    refine ⟨by simpa using h1, .inr ⟨q, cap, cur.setIfInBounds k u, rfl, hb, heap_setCell_same w q k cur e u hg0, hnc, hcm, by simpa using hcs, ?_⟩⟩
    rw [Array.toList_setIfInBounds, List.take_set, htk]
theorem owns_frozen {w : World} {base q n cap size : Nat} {e : TypeId} {xs : List Value} (h : w.ownsRow base e size (.slice (some ⟨q, 0, none⟩) n cap) n xs) (k : Nat) : w.frozen? ⟨q, k, none⟩ = false := by
  rcases h.2 with ⟨hn, _⟩ | ⟨g0, cap0, cur, he, hb, hg0, _⟩
  · cases hn
  · obtain ⟨rfl, rfl⟩ : q = g0 ∧ cap = cap0 := by injection he with a b c; injection a with a; injection a with a; exact ⟨a, c⟩
    simp [World.frozen?, hg0]
/-- Offline -/
def offT (T : List Gp) (g : Int) : Int × List Gp := match gAt T g with
  | none => (110, T)
  | some x => if g = 1 ∨ x.2.2 = true then (292, T) else (0, T.set (g.toNat - 1) (x.1, x.2.1, true))
theorem offT_wf {T : List Gp} (h : WfT T) (g : Int) : WfT (offT T g).2 := by
  unfold offT
  cases hg : gAt T g with
  | none => exact h
  | some x =>
    simp only
    split
    · exact h
    · rename_i h1
      obtain ⟨l1, l2, l3⟩ := gAt_lt hg
      have l4 : (g - 1).toNat = g.toNat - 1 := by omega
      rw [l4] at l3
      have at_ : ∀ (i : Nat) (y : Gp), (T.set (g.toNat - 1) (x.1, x.2.1, true))[i]? = some y → ∃ z : Gp, T[i]? = some z ∧ z.1 = y.1 ∧ z.2.1 = y.2.1 := fun i y hy => by
        rw [List.getElem?_set] at hy
        split at hy
        · rename_i e
          rw [← e]
          split at hy
          · cases hy; exact ⟨x, l3, rfl, rfl⟩
          · cases hy
        · exact ⟨y, hy, rfl, rfl⟩
      have at2 : ∀ (i : Nat) (z : Gp), T[i]? = some z → ∃ y : Gp, (T.set (g.toNat - 1) (x.1, x.2.1, true))[i]? = some y ∧ z.1 = y.1 ∧ z.2.1 = y.2.1 := fun i z hz => by
        rw [List.getElem?_set]
        split
        · rename_i e
          rw [← e, l3] at hz
          cases hz
          rw [if_pos (by omega)]
          exact ⟨_, rfl, rfl, rfl⟩
        · exact ⟨z, hz, rfl, rfl⟩
      refine ⟨by simpa using h.le, ?_, fun i y hy h1 => ?_⟩
      · rw [List.getElem?_set_ne (by omega)]; exact h.root
      · obtain ⟨z, hz, e1, e2⟩ := at_ i y hy
        obtain ⟨a, b, c, d, u, hu, hd⟩ := h.up i z hz h1
        obtain ⟨k1, k2, k3⟩ := gAt_lt hu
        obtain ⟨v, hv, f1, f2⟩ := at2 _ _ k3
        rw [e1] at a b hv
        rw [e2] at c d hd
        exact ⟨a, b, c, d, v, by unfold gAt; rw [if_pos (by omega)]; exact hv, by omega⟩
theorem flat_off {T : List Gp} : ∀ {k : Nat} {x : Gp}, T[k]? = some x → (T.flatMap gpCells).set (k * 3 + 2) (.bool true) = (T.set k (x.1, x.2.1, true)).flatMap gpCells := by
  induction T with
  | nil => intro k x h; simp at h
  | cons y l ih =>
    intro k x h
    cases k with
    | zero =>
      obtain rfl : y = x := by simpa using h
      rfl
    | succ k =>
      rw [List.set_cons_succ, List.flatMap_cons, List.flatMap_cons, ← ih (by simpa using h)]
      have hl : (gpCells y).length = 3 := rfl
      rw [List.set_append, if_neg (by rw [hl]; omega), hl, show (k + 1) * 3 + 2 - 3 = k * 3 + 2 by omega]
theorem TrAt.offed {w : World} {base B q cap : Nat} {T : List Gp} {g : Int} {x : Gp} (h : TrAt w base B q cap T) (hg : gAt T g = some x) :
    TrAt (w.setCell ⟨q, (g.toNat - 1) * 3 + 2, none⟩ (.bool true)) base B q cap (T.set (g.toNat - 1) (x.1, x.2.1, true)) ∧ Step [49, 51] base w (w.setCell ⟨q, (g.toNat - 1) * 3 + 2, none⟩ (.bool true)) := by
  have h3 := (gAt_lt hg).2.2
  rw [show (g - 1).toNat = g.toNat - 1 by have := (gAt_lt hg).1; omega] at h3
  have hqb := h.own.lt q rfl
  refine ⟨⟨?_, ?_⟩, ?_, ?_⟩
  · have := h.blk.setOther (a := ⟨q, (g.toNat - 1) * 3 + 2, none⟩) (own_blk_ne h) (.bool true)
    simpa using this
  · have := owns_set h.own ((g.toNat - 1) * 3 + 2) (.bool true)
    rw [flat_off h3] at this
    simpa using this
  · exact (Below.refl _ _).setCell (p := ⟨q, _, none⟩) hqb.1 _
  · exact KeepT.grown h.own (by have := (Only.set q ((g.toNat - 1) * 3 + 2) w (.bool true)).g; exact this) (by simp)
set_option maxRecDepth 100000 in
set_option maxHeartbeats 1000000 in
theorem off_any (w : World) (base B : Nat) (T : List Gp) (g : Int) (h : Tr w base B T) :
    Calls Try.prog 13 #[.pointer (some ⟨B, 0, none⟩), .int .i64 g] w fun e w' => e = .returned (.int .i64 (offT T g).1) ∧ Tr w' base B (offT T g).2 ∧ Step [49, 51] base w w' := by
  obtain ⟨hbB, wf, q, cap, ht⟩ := h
  have hN := callsIn_wide.1 (none_in Fence.wide 10 trivial rfl w base B q cap T ht wf.ne wf.le)
  have TT := Lib.hid ht
  have HT := Lib.hid (show Tr w base B T from ⟨hbB, wf, q, cap, ht⟩)
  cases hg : gAt T g with
  | none =>
    have hO := callsIn_wide.1 (of_none_in Fence.wide 10 trivial trivial rfl (by omega) w base B q cap T g ht wf.ne wf.le hg)
    have HR := Lib.hid (show offT T g = (110, T) by unfold offT; rw [hg])
    clear wf ht hg
    go_enter Try.func13, Try.ntmps13
    go_wp2_with fail
    refine hN.mono ?_
    rintro e w1 ⟨rfl, rfl⟩
    clear hN
    go_wp2_with fail
    refine hO.mono ?_
    rintro e w1 ⟨rfl, rfl⟩
    clear hO
    go_wp2_with fail
    go_ret
    rw [HR.out]
    exact ⟨rfl, HT.out, Step.refl _ _ _⟩
  | some x =>
    have hO := callsIn_wide.1 (of_in Fence.wide 10 trivial trivial rfl (by omega) w base B q cap T g x ht wf.ne wf.le hg)
    obtain ⟨c0, c1, c2⟩ := ht.grp hg
    have f2 : w.frozen? ⟨q, (g.toNat - 1) * 3 + 2, none⟩ = false := owns_frozen ht.own _
    obtain ⟨px, dx, ox⟩ := x
    simp only at c0 c1 c2
    by_cases h1 : g = 1
    · have hb : (g == 1) = true := by simpa using h1
      have HR := Lib.hid (show offT T g = (292, T) by unfold offT; rw [hg]; simp [h1])
      clear wf ht hg h1
      go_enter Try.func13, Try.ntmps13
      go_wp2_with fail
      refine hN.mono ?_
      rintro e w1 ⟨rfl, rfl⟩
      clear hN
      go_wp2_with fail
      refine hO.mono ?_
      rintro e w1 ⟨rfl, rfl⟩
      clear hO
      go_wp2_with fail
      go_ret
      rw [HR.out]
      exact ⟨rfl, HT.out, Step.refl _ _ _⟩
    · have hb : (g == 1) = false := by simpa using h1
      cases ox with
      | true =>
        have HR := Lib.hid (show offT T g = (292, T) by unfold offT; rw [hg]; simp)
        clear wf ht hg h1
        go_enter Try.func13, Try.ntmps13
        go_wp2_with fail
        refine hN.mono ?_
        rintro e w1 ⟨rfl, rfl⟩
        clear hN
        go_wp2_with fail
        refine hO.mono ?_
        rintro e w1 ⟨rfl, rfl⟩
        clear hO
        go_wp2_with fail
        go_ret
        rw [HR.out]
        exact ⟨rfl, HT.out, Step.refl _ _ _⟩
      | false =>
        have HR := Lib.hid (show offT T g = (0, T.set (g.toNat - 1) (px, dx, true)) by unfold offT; rw [hg]; simp [h1])
        have WF2 := Lib.hid (show WfT (T.set (g.toNat - 1) (px, dx, true)) from by have := offT_wf wf g; rwa [HR.out] at this)
        have hA := ht.offed hg
        have A1 := Lib.hid hA.1
        have A2 := Lib.hid hA.2
        clear wf ht hg h1 hA
        go_enter Try.func13, Try.ntmps13
        go_wp2_with fail
        refine hN.mono ?_
        rintro e w1 ⟨rfl, rfl⟩
        clear hN
        go_wp2_with fail
        refine hO.mono ?_
        rintro e w1 ⟨rfl, rfl⟩
        clear hO
        go_wp2_with fail
        go_ret
        rw [HR.out]
        exact ⟨rfl, ⟨hbB, WF2.out, q, cap, A1.out⟩, A2.out⟩
set_option maxRecDepth 100000 in
set_option maxHeartbeats 1000000 in
theorem new_any (w : World) (base : Nat) (hb : base ≤ w.heap.size) :
    Calls Try.prog 8 #[] w fun e w' => ∃ B, e = .returned (.pointer (some ⟨B, 0, none⟩)) ∧ Tr w' base B newT ∧ Below w.heap.size w w' := by
  go_enter Try.func8, Try.ntmps8
  go_wp2_with fail
  go_ret
  have b2 : Blk ((w.alloc (.cells #[.int .i64 0, .int .i64 1, .bool false] 51)).alloc (.cells #[.slice (some ⟨w.heap.size, 0, none⟩) 1 1] 49)) (w.heap.size + 1) #[.slice (some ⟨w.heap.size, 0, none⟩) 1 1] 49 := by
    have := Blk.new (w.alloc (.cells #[.int .i64 0, .int .i64 1, .bool false] 51)) #[.slice (some ⟨w.heap.size, 0, none⟩) 1 1] 49
    rwa [World.size_alloc] at this
  have b1 := (Blk.new w #[.int .i64 0, .int .i64 1, .bool false] 51).alloc (.cells #[.slice (some ⟨w.heap.size, 0, none⟩) 1 1] 49)
  exact ⟨_, rfl, ⟨by omega, newT_wf, w.heap.size, 1, b2, rfl, .inr ⟨w.heap.size, 1, _, rfl, hb, b1, Nat.le_refl _, by simp [maxLen], rfl, rfl⟩⟩, (by repeat (first | exact Below.refl _ _ | assumption | refine Below.setCell ?_ (by first | omega | (simp; done) | (simp; omega)) _ | refine Below.drew ?_ | refine Below.alloc ?_ (by first | omega | (simp; done) | (simp; omega)) _ | refine Below.trans ?_ (Below.mono (by assumption) (by first | omega | (simp; done) | (simp; omega)))))⟩
end Go.Proofs.Ytkkjnnmjfamkjaa
