/- TapeKnown: the walk. -/
import Derived.Test.YtdjhkiahpidldaaAI
import Derived.Test.YtdjhkiahpidldaaAC
import Derived.Test.YtdjhkiahpidldaaZ
import Derived.Test.YtdjhkiahpidldaaH
import Derived.Deep.DeepCutAuto
import Derived.BigRegion
namespace Go.Proofs.Ytdjhkiahpidldaa
open Go.RowKit

attribute [local go_sem ↓] Go.wp_at_zero Go.wp_at_succ
set_option maxRecDepth 100000 in
set_option maxHeartbeats 8000000 in
theorem tapeknown_any (w : World) : Calls Try.prog 8 #[] w fun e w' => e = .returned (.bool true) ∧ Below w.heap.size w w' := by
  have hmA : ∀ W : World, (Instr.makeSlice 24 (.int .i64 8) (.int .i64 8)).run Try.prog W = .ok (.slice (some ⟨W.heap.size, 0, none⟩) 8 8) (W.alloc (.cells (madeCells #[.slice none 0 0] 8) 42)) := fun W => make24 8 (by decide) W
  have hmB : ∀ W : World, (Instr.makeSlice 25 (.int .i64 4096) (.int .i64 4096)).run Try.prog W = .ok (.slice (some ⟨W.heap.size, 0, none⟩) 4096 4096) (W.alloc (.cells (madeCells #[.int .i64 0] 4096) 3)) := fun W => make25 4096 (by decide) W
  go_enter Try.func8, Try.ntmps8
  go_upto_region 1 with fail
  go_cut [1] (fun s1 wx => ∃ T1 gC gP, s1 = .pointer (some ⟨T1, 0, none⟩) ∧ w.heap.size ≤ T1 ∧ w.heap.size ≤ gC ∧ Blk wx T1 #[.int .i64 8, .int .i64 1024, .slice (some ⟨gC, 0, none⟩) 8 8, .slice (some ⟨gP, 0, none⟩) 4096 4096] 27 ∧ Blk wx gC (madeCells #[.slice none 0 0] 8) 42 ∧ Blk wx gP (madeCells #[.int .i64 0] 4096) 3 ∧ w.heap.size ≤ gP ∧ Below w.heap.size w wx)
  case first =>
    refine till_start 4 (fun _ => True) (by kernel_rfl) ?_
    have hHB : True := trivial
    have HB := Lib.hid (show Below w.heap.size w w.drew from (Below.refl _ _).drew)
    generalize w.drew = X0 at *
    refine till_three (i := 0) (j := 1) (k := 3) (by kernel_rfl) rfl rfl rfl (fun K hK => ?_) (fun K hK => ?_) (fun K hK => ?_)
    ·
      go_simp
      refine hK.out _ _ (fun _ => trivial) ?_
      clear hK K
      try simp only [Act.put, List.setIfInBounds_toArray, List.set_cons_zero, List.set_cons_succ]
      have BC := Lib.hid (blk_alloc X0 (madeCells #[.slice none 0 0] 8) 42)
      have hgC : w.heap.size ≤ X0.heap.size := HB.out.size
      replace HB := Lib.hid (HB.out.alloc HB.out.size (.cells (madeCells #[.slice none 0 0] 8) 42))
      obtain ⟨gC, eC⟩ : ∃ g, g = X0.heap.size := ⟨_, rfl⟩
      rw [← eC] at BC hgC ⊢
      clear eC
      generalize X0.alloc (.cells (madeCells #[.slice none 0 0] 8) 42) = X1 at *
      refine till_two (i := 1) (j := 3) (by kernel_rfl) rfl rfl (fun K hK => ?_) (fun K hK => ?_)
      ·
        go_simp
        refine hK.out _ _ (fun _ => trivial) ?_
        clear hK K
        try simp only [Act.put, List.setIfInBounds_toArray, List.set_cons_zero, List.set_cons_succ]
        have BP := Lib.hid (blk_alloc X1 (madeCells #[.int .i64 0] 4096) 3)
        have hgP : w.heap.size ≤ X1.heap.size := HB.out.size
        replace HB := Lib.hid (HB.out.alloc HB.out.size (.cells (madeCells #[.int .i64 0] 4096) 3))
        replace BC := Lib.hid (BC.out.alloc (.cells (madeCells #[.int .i64 0] 4096) 3))
        obtain ⟨gP, eP⟩ : ∃ g, g = X1.heap.size := ⟨_, rfl⟩
        rw [← eP] at BP hgP ⊢
        clear eP
        generalize X1.alloc (.cells (madeCells #[.int .i64 0] 4096) 3) = X2 at *
        refine till_take (i := 2) (v := ?_) rfl (by kernel_rfl) (by kernel_rfl) (by kernel_rfl) (by kernel_rfl) (fun _ _ _ h => h) (Or.inl ⟨by rfl, ?_⟩) hHB ?_
        rotate_left
        · (intro w hSw; (try dsimp only at hSw); go_simp; try with_reducible rfl)
        try simp only [Act.put, List.setIfInBounds_toArray, List.set_cons_zero, List.set_cons_succ]
        refine till_one (i := 3) (by kernel_rfl) rfl (fun K hK => ?_)
        go_simp
        refine hK.out _ _ (fun _ => trivial) ?_
        clear hK K
        try simp only [Act.put, List.setIfInBounds_toArray, List.set_cons_zero, List.set_cons_succ]
        have BT := Lib.hid (blk_alloc X2 #[.int .i64 0, .int .i64 0, .slice none 0 0, .slice none 0 0] 27)
        have hgT : w.heap.size ≤ X2.heap.size := HB.out.size
        replace HB := Lib.hid (HB.out.alloc HB.out.size (.cells #[.int .i64 0, .int .i64 0, .slice none 0 0, .slice none 0 0] 27))
        replace BC := Lib.hid (BC.out.alloc (.cells #[.int .i64 0, .int .i64 0, .slice none 0 0, .slice none 0 0] 27))
        replace BP := Lib.hid (BP.out.alloc (.cells #[.int .i64 0, .int .i64 0, .slice none 0 0, .slice none 0 0] 27))
        obtain ⟨gT, eT⟩ : ∃ g, g = X2.heap.size := ⟨_, rfl⟩
        rw [← eT] at BT hgT ⊢
        clear eT
        generalize X2.alloc (.cells #[.int .i64 0, .int .i64 0, .slice none 0 0, .slice none 0 0] 27) = X3 at *
        have s0 := BT.out.cell (i := 0) rfl
        have s1 := BT.out.cell (i := 1) rfl
        have s2 := BT.out.cell (i := 2) rfl
        have s3 := BT.out.cell (i := 3) rfl
        have f0 := BT.out.frozen 0
        have f1 := BT.out.frozen 1
        have f2 := BT.out.frozen 2
        have f3 := BT.out.frozen 3
        clear hHB
        refine till_one (i := 4) (by kernel_rfl) rfl (fun K hK => ?_)
        go_simp
        refine hK.out _ _ (fun h => absurd rfl h) ?_
        clear hK K s0 s1 s2 s3 f0 f1 f2 f3
        try simp only [Act.put, List.setIfInBounds_toArray, List.set_cons_zero, List.set_cons_succ]
        refine till_done (by kernel_rfl) ?_ _
        go_wp2_with fail
        go_meet
        exact full_end hgT hgC hgP BT.out BC.out BP.out HB.out
      ·
        go_simp
        refine hK.out _ _ (fun _ => trivial) ?_
        clear hK K
        try simp only [Act.put, List.setIfInBounds_toArray, List.set_cons_zero, List.set_cons_succ]
        have BT := Lib.hid (blk_alloc X1 #[.int .i64 0, .int .i64 0, .slice none 0 0, .slice none 0 0] 27)
        have hgT : w.heap.size ≤ X1.heap.size := HB.out.size
        replace HB := Lib.hid (HB.out.alloc HB.out.size (.cells #[.int .i64 0, .int .i64 0, .slice none 0 0, .slice none 0 0] 27))
        replace BC := Lib.hid (BC.out.alloc (.cells #[.int .i64 0, .int .i64 0, .slice none 0 0, .slice none 0 0] 27))
        obtain ⟨gT, eT⟩ : ∃ g, g = X1.heap.size := ⟨_, rfl⟩
        rw [← eT] at BT hgT ⊢
        clear eT
        generalize X1.alloc (.cells #[.int .i64 0, .int .i64 0, .slice none 0 0, .slice none 0 0] 27) = X2 at *
        refine till_one (i := 1) (by kernel_rfl) rfl (fun K hK => ?_)
        go_simp
        refine hK.out _ _ (fun _ => trivial) ?_
        clear hK K
        try simp only [Act.put, List.setIfInBounds_toArray, List.set_cons_zero, List.set_cons_succ]
        have BP := Lib.hid (blk_alloc X2 (madeCells #[.int .i64 0] 4096) 3)
        have hgP : w.heap.size ≤ X2.heap.size := HB.out.size
        replace HB := Lib.hid (HB.out.alloc HB.out.size (.cells (madeCells #[.int .i64 0] 4096) 3))
        replace BC := Lib.hid (BC.out.alloc (.cells (madeCells #[.int .i64 0] 4096) 3))
        replace BT := Lib.hid (BT.out.alloc (.cells (madeCells #[.int .i64 0] 4096) 3))
        obtain ⟨gP, eP⟩ : ∃ g, g = X2.heap.size := ⟨_, rfl⟩
        rw [← eP] at BP hgP ⊢
        clear eP
        generalize X2.alloc (.cells (madeCells #[.int .i64 0] 4096) 3) = X3 at *
        refine till_take (i := 2) (v := ?_) rfl (by kernel_rfl) (by kernel_rfl) (by kernel_rfl) (by kernel_rfl) (fun _ _ _ h => h) (Or.inl ⟨by rfl, ?_⟩) hHB ?_
        rotate_left
        · (intro w hSw; (try dsimp only at hSw); go_simp; try with_reducible rfl)
        try simp only [Act.put, List.setIfInBounds_toArray, List.set_cons_zero, List.set_cons_succ]
        have s0 := BT.out.cell (i := 0) rfl
        have s1 := BT.out.cell (i := 1) rfl
        have s2 := BT.out.cell (i := 2) rfl
        have s3 := BT.out.cell (i := 3) rfl
        have f0 := BT.out.frozen 0
        have f1 := BT.out.frozen 1
        have f2 := BT.out.frozen 2
        have f3 := BT.out.frozen 3
        clear hHB
        refine till_one (i := 4) (by kernel_rfl) rfl (fun K hK => ?_)
        go_simp
        refine hK.out _ _ (fun h => absurd rfl h) ?_
        clear hK K s0 s1 s2 s3 f0 f1 f2 f3
        try simp only [Act.put, List.setIfInBounds_toArray, List.set_cons_zero, List.set_cons_succ]
        refine till_done (by kernel_rfl) ?_ _
        go_wp2_with fail
        go_meet
        exact full_end hgT hgC hgP BT.out BC.out BP.out HB.out
    ·
      go_simp
      refine hK.out _ _ (fun _ => trivial) ?_
      clear hK K
      try simp only [Act.put, List.setIfInBounds_toArray, List.set_cons_zero, List.set_cons_succ]
      have BP := Lib.hid (blk_alloc X0 (madeCells #[.int .i64 0] 4096) 3)
      have hgP : w.heap.size ≤ X0.heap.size := HB.out.size
      replace HB := Lib.hid (HB.out.alloc HB.out.size (.cells (madeCells #[.int .i64 0] 4096) 3))
      obtain ⟨gP, eP⟩ : ∃ g, g = X0.heap.size := ⟨_, rfl⟩
      rw [← eP] at BP hgP ⊢
      clear eP
      generalize X0.alloc (.cells (madeCells #[.int .i64 0] 4096) 3) = X1 at *
      refine till_two (i := 0) (j := 3) (by kernel_rfl) rfl rfl (fun K hK => ?_) (fun K hK => ?_)
      ·
        go_simp
        refine hK.out _ _ (fun _ => trivial) ?_
        clear hK K
        try simp only [Act.put, List.setIfInBounds_toArray, List.set_cons_zero, List.set_cons_succ]
        have BC := Lib.hid (blk_alloc X1 (madeCells #[.slice none 0 0] 8) 42)
        have hgC : w.heap.size ≤ X1.heap.size := HB.out.size
        replace HB := Lib.hid (HB.out.alloc HB.out.size (.cells (madeCells #[.slice none 0 0] 8) 42))
        replace BP := Lib.hid (BP.out.alloc (.cells (madeCells #[.slice none 0 0] 8) 42))
        obtain ⟨gC, eC⟩ : ∃ g, g = X1.heap.size := ⟨_, rfl⟩
        rw [← eC] at BC hgC ⊢
        clear eC
        generalize X1.alloc (.cells (madeCells #[.slice none 0 0] 8) 42) = X2 at *
        refine till_take (i := 2) (v := ?_) rfl (by kernel_rfl) (by kernel_rfl) (by kernel_rfl) (by kernel_rfl) (fun _ _ _ h => h) (Or.inl ⟨by rfl, ?_⟩) hHB ?_
        rotate_left
        · (intro w hSw; (try dsimp only at hSw); go_simp; try with_reducible rfl)
        try simp only [Act.put, List.setIfInBounds_toArray, List.set_cons_zero, List.set_cons_succ]
        refine till_one (i := 3) (by kernel_rfl) rfl (fun K hK => ?_)
        go_simp
        refine hK.out _ _ (fun _ => trivial) ?_
        clear hK K
        try simp only [Act.put, List.setIfInBounds_toArray, List.set_cons_zero, List.set_cons_succ]
        have BT := Lib.hid (blk_alloc X2 #[.int .i64 0, .int .i64 0, .slice none 0 0, .slice none 0 0] 27)
        have hgT : w.heap.size ≤ X2.heap.size := HB.out.size
        replace HB := Lib.hid (HB.out.alloc HB.out.size (.cells #[.int .i64 0, .int .i64 0, .slice none 0 0, .slice none 0 0] 27))
        replace BP := Lib.hid (BP.out.alloc (.cells #[.int .i64 0, .int .i64 0, .slice none 0 0, .slice none 0 0] 27))
        replace BC := Lib.hid (BC.out.alloc (.cells #[.int .i64 0, .int .i64 0, .slice none 0 0, .slice none 0 0] 27))
        obtain ⟨gT, eT⟩ : ∃ g, g = X2.heap.size := ⟨_, rfl⟩
        rw [← eT] at BT hgT ⊢
        clear eT
        generalize X2.alloc (.cells #[.int .i64 0, .int .i64 0, .slice none 0 0, .slice none 0 0] 27) = X3 at *
        have s0 := BT.out.cell (i := 0) rfl
        have s1 := BT.out.cell (i := 1) rfl
        have s2 := BT.out.cell (i := 2) rfl
        have s3 := BT.out.cell (i := 3) rfl
        have f0 := BT.out.frozen 0
        have f1 := BT.out.frozen 1
        have f2 := BT.out.frozen 2
        have f3 := BT.out.frozen 3
        clear hHB
        refine till_one (i := 4) (by kernel_rfl) rfl (fun K hK => ?_)
        go_simp
        refine hK.out _ _ (fun h => absurd rfl h) ?_
        clear hK K s0 s1 s2 s3 f0 f1 f2 f3
        try simp only [Act.put, List.setIfInBounds_toArray, List.set_cons_zero, List.set_cons_succ]
        refine till_done (by kernel_rfl) ?_ _
        go_wp2_with fail
        go_meet
        exact full_end hgT hgC hgP BT.out BC.out BP.out HB.out
      ·
        go_simp
        refine hK.out _ _ (fun _ => trivial) ?_
        clear hK K
        try simp only [Act.put, List.setIfInBounds_toArray, List.set_cons_zero, List.set_cons_succ]
        have BT := Lib.hid (blk_alloc X1 #[.int .i64 0, .int .i64 0, .slice none 0 0, .slice none 0 0] 27)
        have hgT : w.heap.size ≤ X1.heap.size := HB.out.size
        replace HB := Lib.hid (HB.out.alloc HB.out.size (.cells #[.int .i64 0, .int .i64 0, .slice none 0 0, .slice none 0 0] 27))
        replace BP := Lib.hid (BP.out.alloc (.cells #[.int .i64 0, .int .i64 0, .slice none 0 0, .slice none 0 0] 27))
        obtain ⟨gT, eT⟩ : ∃ g, g = X1.heap.size := ⟨_, rfl⟩
        rw [← eT] at BT hgT ⊢
        clear eT
        generalize X1.alloc (.cells #[.int .i64 0, .int .i64 0, .slice none 0 0, .slice none 0 0] 27) = X2 at *
        refine till_one (i := 0) (by kernel_rfl) rfl (fun K hK => ?_)
        go_simp
        refine hK.out _ _ (fun _ => trivial) ?_
        clear hK K
        try simp only [Act.put, List.setIfInBounds_toArray, List.set_cons_zero, List.set_cons_succ]
        have BC := Lib.hid (blk_alloc X2 (madeCells #[.slice none 0 0] 8) 42)
        have hgC : w.heap.size ≤ X2.heap.size := HB.out.size
        replace HB := Lib.hid (HB.out.alloc HB.out.size (.cells (madeCells #[.slice none 0 0] 8) 42))
        replace BP := Lib.hid (BP.out.alloc (.cells (madeCells #[.slice none 0 0] 8) 42))
        replace BT := Lib.hid (BT.out.alloc (.cells (madeCells #[.slice none 0 0] 8) 42))
        obtain ⟨gC, eC⟩ : ∃ g, g = X2.heap.size := ⟨_, rfl⟩
        rw [← eC] at BC hgC ⊢
        clear eC
        generalize X2.alloc (.cells (madeCells #[.slice none 0 0] 8) 42) = X3 at *
        refine till_take (i := 2) (v := ?_) rfl (by kernel_rfl) (by kernel_rfl) (by kernel_rfl) (by kernel_rfl) (fun _ _ _ h => h) (Or.inl ⟨by rfl, ?_⟩) hHB ?_
        rotate_left
        · (intro w hSw; (try dsimp only at hSw); go_simp; try with_reducible rfl)
        try simp only [Act.put, List.setIfInBounds_toArray, List.set_cons_zero, List.set_cons_succ]
        have s0 := BT.out.cell (i := 0) rfl
        have s1 := BT.out.cell (i := 1) rfl
        have s2 := BT.out.cell (i := 2) rfl
        have s3 := BT.out.cell (i := 3) rfl
        have f0 := BT.out.frozen 0
        have f1 := BT.out.frozen 1
        have f2 := BT.out.frozen 2
        have f3 := BT.out.frozen 3
        clear hHB
        refine till_one (i := 4) (by kernel_rfl) rfl (fun K hK => ?_)
        go_simp
        refine hK.out _ _ (fun h => absurd rfl h) ?_
        clear hK K s0 s1 s2 s3 f0 f1 f2 f3
        try simp only [Act.put, List.setIfInBounds_toArray, List.set_cons_zero, List.set_cons_succ]
        refine till_done (by kernel_rfl) ?_ _
        go_wp2_with fail
        go_meet
        exact full_end hgT hgC hgP BT.out BC.out BP.out HB.out
    ·
      go_simp
      refine hK.out _ _ (fun _ => trivial) ?_
      clear hK K
      try simp only [Act.put, List.setIfInBounds_toArray, List.set_cons_zero, List.set_cons_succ]
      have BT := Lib.hid (blk_alloc X0 #[.int .i64 0, .int .i64 0, .slice none 0 0, .slice none 0 0] 27)
      have hgT : w.heap.size ≤ X0.heap.size := HB.out.size
      replace HB := Lib.hid (HB.out.alloc HB.out.size (.cells #[.int .i64 0, .int .i64 0, .slice none 0 0, .slice none 0 0] 27))
      obtain ⟨gT, eT⟩ : ∃ g, g = X0.heap.size := ⟨_, rfl⟩
      rw [← eT] at BT hgT ⊢
      clear eT
      generalize X0.alloc (.cells #[.int .i64 0, .int .i64 0, .slice none 0 0, .slice none 0 0] 27) = X1 at *
      refine till_two (i := 0) (j := 1) (by kernel_rfl) rfl rfl (fun K hK => ?_) (fun K hK => ?_)
      ·
        go_simp
        refine hK.out _ _ (fun _ => trivial) ?_
        clear hK K
        try simp only [Act.put, List.setIfInBounds_toArray, List.set_cons_zero, List.set_cons_succ]
        have BC := Lib.hid (blk_alloc X1 (madeCells #[.slice none 0 0] 8) 42)
        have hgC : w.heap.size ≤ X1.heap.size := HB.out.size
        replace HB := Lib.hid (HB.out.alloc HB.out.size (.cells (madeCells #[.slice none 0 0] 8) 42))
        replace BT := Lib.hid (BT.out.alloc (.cells (madeCells #[.slice none 0 0] 8) 42))
        obtain ⟨gC, eC⟩ : ∃ g, g = X1.heap.size := ⟨_, rfl⟩
        rw [← eC] at BC hgC ⊢
        clear eC
        generalize X1.alloc (.cells (madeCells #[.slice none 0 0] 8) 42) = X2 at *
        refine till_one (i := 1) (by kernel_rfl) rfl (fun K hK => ?_)
        go_simp
        refine hK.out _ _ (fun _ => trivial) ?_
        clear hK K
        try simp only [Act.put, List.setIfInBounds_toArray, List.set_cons_zero, List.set_cons_succ]
        have BP := Lib.hid (blk_alloc X2 (madeCells #[.int .i64 0] 4096) 3)
        have hgP : w.heap.size ≤ X2.heap.size := HB.out.size
        replace HB := Lib.hid (HB.out.alloc HB.out.size (.cells (madeCells #[.int .i64 0] 4096) 3))
        replace BT := Lib.hid (BT.out.alloc (.cells (madeCells #[.int .i64 0] 4096) 3))
        replace BC := Lib.hid (BC.out.alloc (.cells (madeCells #[.int .i64 0] 4096) 3))
        obtain ⟨gP, eP⟩ : ∃ g, g = X2.heap.size := ⟨_, rfl⟩
        rw [← eP] at BP hgP ⊢
        clear eP
        generalize X2.alloc (.cells (madeCells #[.int .i64 0] 4096) 3) = X3 at *
        refine till_take (i := 2) (v := ?_) rfl (by kernel_rfl) (by kernel_rfl) (by kernel_rfl) (by kernel_rfl) (fun _ _ _ h => h) (Or.inl ⟨by rfl, ?_⟩) hHB ?_
        rotate_left
        · (intro w hSw; (try dsimp only at hSw); go_simp; try with_reducible rfl)
        try simp only [Act.put, List.setIfInBounds_toArray, List.set_cons_zero, List.set_cons_succ]
        have s0 := BT.out.cell (i := 0) rfl
        have s1 := BT.out.cell (i := 1) rfl
        have s2 := BT.out.cell (i := 2) rfl
        have s3 := BT.out.cell (i := 3) rfl
        have f0 := BT.out.frozen 0
        have f1 := BT.out.frozen 1
        have f2 := BT.out.frozen 2
        have f3 := BT.out.frozen 3
        clear hHB
        refine till_one (i := 4) (by kernel_rfl) rfl (fun K hK => ?_)
        go_simp
        refine hK.out _ _ (fun h => absurd rfl h) ?_
        clear hK K s0 s1 s2 s3 f0 f1 f2 f3
        try simp only [Act.put, List.setIfInBounds_toArray, List.set_cons_zero, List.set_cons_succ]
        refine till_done (by kernel_rfl) ?_ _
        go_wp2_with fail
        go_meet
        exact full_end hgT hgC hgP BT.out BC.out BP.out HB.out
      ·
        go_simp
        refine hK.out _ _ (fun _ => trivial) ?_
        clear hK K
        try simp only [Act.put, List.setIfInBounds_toArray, List.set_cons_zero, List.set_cons_succ]
        have BP := Lib.hid (blk_alloc X1 (madeCells #[.int .i64 0] 4096) 3)
        have hgP : w.heap.size ≤ X1.heap.size := HB.out.size
        replace HB := Lib.hid (HB.out.alloc HB.out.size (.cells (madeCells #[.int .i64 0] 4096) 3))
        replace BT := Lib.hid (BT.out.alloc (.cells (madeCells #[.int .i64 0] 4096) 3))
        obtain ⟨gP, eP⟩ : ∃ g, g = X1.heap.size := ⟨_, rfl⟩
        rw [← eP] at BP hgP ⊢
        clear eP
        generalize X1.alloc (.cells (madeCells #[.int .i64 0] 4096) 3) = X2 at *
        refine till_one (i := 0) (by kernel_rfl) rfl (fun K hK => ?_)
        go_simp
        refine hK.out _ _ (fun _ => trivial) ?_
        clear hK K
        try simp only [Act.put, List.setIfInBounds_toArray, List.set_cons_zero, List.set_cons_succ]
        have BC := Lib.hid (blk_alloc X2 (madeCells #[.slice none 0 0] 8) 42)
        have hgC : w.heap.size ≤ X2.heap.size := HB.out.size
        replace HB := Lib.hid (HB.out.alloc HB.out.size (.cells (madeCells #[.slice none 0 0] 8) 42))
        replace BT := Lib.hid (BT.out.alloc (.cells (madeCells #[.slice none 0 0] 8) 42))
        replace BP := Lib.hid (BP.out.alloc (.cells (madeCells #[.slice none 0 0] 8) 42))
        obtain ⟨gC, eC⟩ : ∃ g, g = X2.heap.size := ⟨_, rfl⟩
        rw [← eC] at BC hgC ⊢
        clear eC
        generalize X2.alloc (.cells (madeCells #[.slice none 0 0] 8) 42) = X3 at *
        refine till_take (i := 2) (v := ?_) rfl (by kernel_rfl) (by kernel_rfl) (by kernel_rfl) (by kernel_rfl) (fun _ _ _ h => h) (Or.inl ⟨by rfl, ?_⟩) hHB ?_
        rotate_left
        · (intro w hSw; (try dsimp only at hSw); go_simp; try with_reducible rfl)
        try simp only [Act.put, List.setIfInBounds_toArray, List.set_cons_zero, List.set_cons_succ]
        have s0 := BT.out.cell (i := 0) rfl
        have s1 := BT.out.cell (i := 1) rfl
        have s2 := BT.out.cell (i := 2) rfl
        have s3 := BT.out.cell (i := 3) rfl
        have f0 := BT.out.frozen 0
        have f1 := BT.out.frozen 1
        have f2 := BT.out.frozen 2
        have f3 := BT.out.frozen 3
        clear hHB
        refine till_one (i := 4) (by kernel_rfl) rfl (fun K hK => ?_)
        go_simp
        refine hK.out _ _ (fun h => absurd rfl h) ?_
        clear hK K s0 s1 s2 s3 f0 f1 f2 f3
        try simp only [Act.put, List.setIfInBounds_toArray, List.set_cons_zero, List.set_cons_succ]
        refine till_done (by kernel_rfl) ?_ _
        go_wp2_with fail
        go_meet
        exact full_end hgT hgC hgP BT.out BC.out BP.out HB.out
  case rest =>
    obtain ⟨T1, gC, gP, rfl, hT, hC, bT, bC, bP, hP, hb⟩ := hcut
    have F0 := Lib.hid (show Fl w T1 gC gP 0 (fun _ => 0) wc from ⟨bT, ⟨_, bC, size_madeCells _ _, fun i hi => by rw [madeCells_get _ hi]; simp [Nat.mod_one]⟩, fun j hj => absurd hj (Nat.not_lt_zero _), bP, hb, hT, hC, hP, fun j hj => absurd hj (Nat.not_lt_zero _), fun j k hj => absurd hj (Nat.not_lt_zero _)⟩)
    have hmC : ∀ W : World, (Instr.makeSlice 42 (.int .i64 64) (.int .i64 64)).run Try.prog W = .ok (.slice (some ⟨W.heap.size, 0, none⟩) 64 64) (W.alloc (.cells (madeCells z4 256) 44)) := fun W => make42 64 256 rfl (by decide) W
    clear bT bC bP hb hT hC hP hmA hmB
    go_wp2_with fail
    go_loopw [2] (fun iv wr => ∃ (i : Nat) (h : Nat → Nat), i ≤ 8 ∧ iv = .int .i64 i ∧ Fl w T1 gC gP i h wr) (fun iv _ => 8 - (intOf iv).toNat)
    case atStart => exact ⟨0, _, Nat.zero_le _, rfl, F0.out⟩
    case round =>
      clear F0
      obtain ⟨i, h, hi8, rfl, hF⟩ := hrel
      have FF := Lib.hid hF
      clear hF
      by_cases hlt : i < 8
      · have z0 : (0 : Int) ≤ (i : Int) := by omega
        have z1 : (i : Int) < 8 := by omega
        go_wp2_with fail
        have FD := Lib.hid (show Fl w T1 gC gP i h wr.drew from ⟨FF.out.t, FF.out.c, FF.out.k, FF.out.p, FF.out.below.drew, FF.out.wT, FF.out.wC, FF.out.wP, FF.out.wh, FF.out.inj⟩)
        refine till_start 5 (fun w' : World => w'.cell? ⟨T1, 2, none⟩ = some (.slice (some ⟨gC, 0, none⟩) 8 8)) (by kernel_rfl) ?_
        generalize wr.drew = wA at *
        have hHB : wA.cell? ⟨T1, 2, none⟩ = some (.slice (some ⟨gC, 0, none⟩) 8 8) := FD.out.t.cell rfl
        have hHB2 : (wA.alloc (.cells (madeCells z4 256) 44)).cell? ⟨T1, 2, none⟩ = some (.slice (some ⟨gC, 0, none⟩) 8 8) := (FD.out.t.alloc _).cell rfl
        have HZ := Lib.hid hHB2
        clear hHB2
        refine till_take (i := 0) (v := ?_) rfl (by kernel_rfl) (by kernel_rfl) (by kernel_rfl) (by kernel_rfl) (fun _ _ _ h => h) (Or.inl ⟨by rfl, ?_⟩) hHB ?_
        rotate_left
        · (intro w hSw; (try dsimp only at hSw); go_simp; try with_reducible rfl)
        try simp only [Act.put, List.setIfInBounds_toArray, List.set_cons_zero, List.set_cons_succ]
        refine till_take (i := 1) (v := ?_) rfl (by kernel_rfl) (by kernel_rfl) (by kernel_rfl) (by kernel_rfl) (fun _ _ _ h => h) (Or.inl ⟨by rfl, ?_⟩) hHB ?_
        rotate_left
        · (intro w hSw; (try dsimp only at hSw); go_simp; try with_reducible rfl)
        try simp only [Act.put, List.setIfInBounds_toArray, List.set_cons_zero, List.set_cons_succ]
        refine till_take (i := 2) (v := ?_) rfl (by kernel_rfl) (by kernel_rfl) (by kernel_rfl) (by kernel_rfl) (fun _ _ _ h => h) (Or.inl ⟨by rfl, ?_⟩) hHB ?_
        rotate_left
        · (intro w hSw; (try dsimp only at hSw); go_simp; try with_reducible rfl)
        try simp only [Act.put, List.setIfInBounds_toArray, List.set_cons_zero, List.set_cons_succ]
        refine till_one (i := 3) (by kernel_rfl) rfl (fun K hK => ?_)
        go_simp
        refine hK.out _ _ (fun _ => HZ.out) ?_
        clear hK K hHB
        try simp only [Act.put, List.setIfInBounds_toArray, List.set_cons_zero, List.set_cons_succ]
        have hHB := HZ.out
        refine till_take (i := 4) (v := ?_) rfl (by kernel_rfl) (by kernel_rfl) (by kernel_rfl) (by kernel_rfl) (fun _ _ _ h => h) (Or.inl ⟨by rfl, ?_⟩) hHB ?_
        rotate_left
        · (intro w hSw; (try dsimp only at hSw); go_simp; try with_reducible rfl)
        try simp only [Act.put, List.setIfInBounds_toArray, List.set_cons_zero, List.set_cons_succ]
        clear hHB
        have c0 := (World.rowIs.alloc FD.out.c (.cells (madeCells z4 256) 44)).cell (i := i) hlt
        have f0 := (World.rowIs.alloc FD.out.c (.cells (madeCells z4 256) 44)).frozen i
        have FN := Lib.hid (FD.out.step hlt)
        generalize wA.alloc (.cells (madeCells z4 256) 44) = wB at *
        refine till_one (i := 5) (by kernel_rfl) rfl (fun K hK => ?_)
        go_simp
        refine hK.out _ _ (fun h => absurd rfl h) ?_
        clear hK K c0 f0
        try simp only [Act.put, List.setIfInBounds_toArray, List.set_cons_zero, List.set_cons_succ]
        refine till_done (by kernel_rfl) ?_ _
        go_wp2_with fail
        go_roundw
        case rel => exact ⟨i + 1, _, by omega, by go_num, FN.out⟩
        case measure => simp [intOf]; omega
      · obtain ⟨q8, hq8⟩ : ∃ q : Int, q = (i : Int) := ⟨_, rfl⟩
        rw [← hq8]
        have hq8' : decide (q8 < 8) = false := decide_eq_false (by omega)
        obtain rfl : i = 8 := by omega
        obtain ⟨h7, hh7⟩ : ∃ x, x = h 7 := ⟨_, rfl⟩
        have k7 := FF.out.k 7 (by decide)
        have c7 := FF.out.c.cell (i := 7) (by decide)
        rw [if_pos (by decide), ← hh7] at c7
        rw [← hh7] at k7
        have FS := Lib.hid (show ScrV fullS (.agg #[.int .i64 8, .int .i64 1024, .slice (some ⟨gC, 0, none⟩) 8 8, .slice (some ⟨gP, 0, none⟩) 4096 4096]) (((((wr.setCell ⟨h7, 252, none⟩ (.int .i64 13)).setCell ⟨h7, 253, none⟩ (.int .i64 255)).setCell ⟨h7, 254, none⟩ (.int .i64 65535)).setCell ⟨h7, 255, none⟩ (.int .i64 255)).setCell ⟨gP, 4095, none⟩ (.int .i64 255)) ∧ Below w.heap.size w (((((wr.setCell ⟨h7, 252, none⟩ (.int .i64 13)).setCell ⟨h7, 253, none⟩ (.int .i64 255)).setCell ⟨h7, 254, none⟩ (.int .i64 65535)).setCell ⟨h7, 255, none⟩ (.int .i64 255)).setCell ⟨gP, 4095, none⟩ (.int .i64 255)) ∧ Blk (((((wr.setCell ⟨h7, 252, none⟩ (.int .i64 13)).setCell ⟨h7, 253, none⟩ (.int .i64 255)).setCell ⟨h7, 254, none⟩ (.int .i64 65535)).setCell ⟨h7, 255, none⟩ (.int .i64 255)).setCell ⟨gP, 4095, none⟩ (.int .i64 255)) T1 #[.int .i64 8, .int .i64 1024, .slice (some ⟨gC, 0, none⟩) 8 8, .slice (some ⟨gP, 0, none⟩) 4096 4096] 27 from by have := full_scr FF.out; rw [← hh7] at this; exact this)
        have t2 : wr.cell? ⟨T1, 2, none⟩ = some (.slice (some ⟨gC, 0, none⟩) 8 8) := FF.out.t.cell rfl
        have e0 : wr.cell? ⟨h7, 252, none⟩ = some (.int .i64 0) := k7.cell (by rw [madeCells_get z4 (by decide), z4_at])
        have e1 : wr.cell? ⟨h7, 253, none⟩ = some (.int .i64 0) := k7.cell (by rw [madeCells_get z4 (by decide), z4_at])
        have e2 : wr.cell? ⟨h7, 254, none⟩ = some (.int .i64 0) := k7.cell (by rw [madeCells_get z4 (by decide), z4_at])
        have e3 : wr.cell? ⟨h7, 255, none⟩ = some (.int .i64 0) := k7.cell (by rw [madeCells_get z4 (by decide), z4_at])
        have f0 := k7.frozen 252
        have f1 := k7.frozen 253
        have f2 := k7.frozen 254
        have f3 := k7.frozen 255
        have nT : T1 ≠ h7 := by have := blk_ne FF.out.t (FF.out.k 7 (by decide)) (by decide); rw [hh7]; exact this
        have nP : gP ≠ h7 := by have := blk_ne FF.out.p (FF.out.k 7 (by decide)) (by decide); rw [hh7]; exact this
        have M7 := Lib.hid (show Blk ((((wr.setCell ⟨h7, 252, none⟩ (.int .i64 13)).setCell ⟨h7, 253, none⟩ (.int .i64 255)).setCell ⟨h7, 254, none⟩ (.int .i64 65535)).setCell ⟨h7, 255, none⟩ (.int .i64 255)) T1 #[.int .i64 8, .int .i64 1024, .slice (some ⟨gC, 0, none⟩) 8 8, .slice (some ⟨gP, 0, none⟩) 4096 4096] 27 ∧ Blk ((((wr.setCell ⟨h7, 252, none⟩ (.int .i64 13)).setCell ⟨h7, 253, none⟩ (.int .i64 255)).setCell ⟨h7, 254, none⟩ (.int .i64 65535)).setCell ⟨h7, 255, none⟩ (.int .i64 255)) gP (madeCells #[.int .i64 0] 4096) 3 from ⟨mid_blk FF.out.t nT, mid_blk FF.out.p nP⟩)
        clear nT nP
        clear FF hh7 k7
        go_upto_region 7 with fail
        generalize ((((wr.setCell ⟨h7, 252, none⟩ (.int .i64 13)).setCell ⟨h7, 253, none⟩ (.int .i64 255)).setCell ⟨h7, 254, none⟩ (.int .i64 65535)).setCell ⟨h7, 255, none⟩ (.int .i64 255)) = X7 at *
        have t3 : X7.cell? ⟨T1, 3, none⟩ = some (.slice (some ⟨gP, 0, none⟩) 4096 4096) := M7.out.1.cell rfl
        have p0 : X7.cell? ⟨gP, 4095, none⟩ = some (.int .i64 0) := M7.out.2.cell (by rw [madeCells_get _ (by decide)]; rfl)
        have fp := M7.out.2.frozen 4095
        clear M7 c7 t2 e0 e1 e2 e3 f0 f1 f2 f3
        go_upto_region 8 with fail
        clear t3 p0 fp
        generalize X7.setCell ⟨gP, 4095, none⟩ (.int .i64 255) = X8 at *
        have S8 := Lib.hid FS.out.1
        have B8 := Lib.hid FS.out.2.1
        have T8 := Lib.hid FS.out.2.2
        clear FS
        obtain ⟨q0, q1, q2, q3⟩ := tcells T8.out
        go_wp2_with fail
        refine (tapewhole_any _ fullS _ (S8.out.at full_len.1 full_len.2).1).mono ?_
        rintro e w3 ⟨rfl, hb⟩
        replace S8 := Lib.hid (S8.out.below hb)
        replace T8 := Lib.hid (T8.out.below hb)
        replace B8 := Lib.hid (on B8.out hb)
        clear hb q0 q1 q2 q3
        obtain ⟨q0, q1, q2, q3⟩ := tcells T8.out
        go_wp2_with fail
        refine (tapebytes_any _ fullS _ (S8.out.at full_len.1 full_len.2).1 (S8.out.at full_len.1 full_len.2).2 full_sz).mono ?_
        rintro e w4 ⟨rfl, hb⟩
        replace S8 := Lib.hid (S8.out.below hb)
        replace T8 := Lib.hid (T8.out.below hb)
        replace B8 := Lib.hid (on B8.out hb)
        clear hb q0 q1 q2 q3
        obtain ⟨q0, q1, q2, q3⟩ := tcells T8.out
        go_wp2_with fail
        refine (tapeapart_any _ _ fullS fullS 3 _ (S8.out.at full_len.1 full_len.2).1 (S8.out.at full_len.1 full_len.2).1 (S8.out.at full_len.1 full_len.2).2 (by decide) (by decide)).mono ?_
        rintro e w5 ⟨rfl, hb⟩
        replace B8 := Lib.hid (on B8.out hb)
        clear hb q0 q1 q2 q3 S8 T8
        have hm1 : ∀ W : World, (Instr.makeSlice 24 (.int .i64 1) (.int .i64 1)).run Try.prog W = .ok (.slice (some ⟨W.heap.size, 0, none⟩) 1 1) (W.alloc (.cells (madeCells #[.slice none 0 0] 1) 42)) := fun W => make24 1 (by decide) W
        go_upto_region 11 with fail
        have S11 := Lib.hid (show ScrV ⟨1, 1, [[]], []⟩ (.agg #[.int .i64 1, .int .i64 1, .slice (some ⟨w5.heap.size, 0, none⟩) 1 1, .slice none 0 0]) ((w5.alloc (.cells (madeCells #[.slice none 0 0] 1) 42)).alloc (.cells #[.int .i64 1, .int .i64 1, .slice (some ⟨w5.heap.size, 0, none⟩) 1 1, .slice none 0 0] 27)) ∧
          Below w.heap.size w ((w5.alloc (.cells (madeCells #[.slice none 0 0] 1) 42)).alloc (.cells #[.int .i64 1, .int .i64 1, .slice (some ⟨w5.heap.size, 0, none⟩) 1 1, .slice none 0 0] 27)) ∧
          Blk ((w5.alloc (.cells (madeCells #[.slice none 0 0] 1) 42)).alloc (.cells #[.int .i64 1, .int .i64 1, .slice (some ⟨w5.heap.size, 0, none⟩) 1 1, .slice none 0 0] 27)) (w5.heap.size + 1) #[.int .i64 1, .int .i64 1, .slice (some ⟨w5.heap.size, 0, none⟩) 1 1, .slice none 0 0] 27 from
          ⟨⟨_, _, rfl, .inr ((listsV_made w5 1).below ((Below.refl _ _).alloc (Nat.le_refl _) _)), picksV_nil _⟩, (B8.out.alloc B8.out.size _).alloc (B8.out.alloc B8.out.size _).size _, by
            have := Blk.new (w5.alloc (.cells (madeCells #[.slice none 0 0] 1) 42)) #[.int .i64 1, .int .i64 1, .slice (some ⟨w5.heap.size, 0, none⟩) 1 1, .slice none 0 0] 27
            simpa using this⟩)
        generalize (w5.alloc (.cells (madeCells #[.slice none 0 0] 1) 42)).alloc (.cells #[.int .i64 1, .int .i64 1, .slice (some ⟨w5.heap.size, 0, none⟩) 1 1, .slice none 0 0] 27) = X11 at *
        generalize w5.heap.size + 1 = T3 at *
        generalize w5.heap.size = C3 at *
        clear B8 hq8 hlt hi8 hm1 hmC
        go_cut [4] (fun s4 wx => AllV s4 wx ∧ ScrV ⟨1, 1, [[]], []⟩ (.agg #[.int .i64 1, .int .i64 1, .slice (some ⟨C3, 0, none⟩) 1 1, .slice none 0 0]) wx ∧ Below w.heap.size w wx ∧ Blk wx T3 #[.int .i64 1, .int .i64 1, .slice (some ⟨C3, 0, none⟩) 1 1, .slice none 0 0] 27)
        case first =>
          replace S11 := Lib.hid (show _ ∧ _ ∧ _ from ⟨S11.out.1.below (Below.refl _ _).drew, S11.out.2.1.drew, show Blk X11.drew T3 #[.int .i64 1, .int .i64 1, .slice (some ⟨C3, 0, none⟩) 1 1, .slice none 0 0] 27 from S11.out.2.2⟩)
          refine name_act fun a ha => ?_
          have hs : a.tmps.size = 164 := by rw [ha]; rfl
          have h3 : a.tmps[3]?.getD undef = .pointer (some ⟨T3, 0, none⟩) := by rw [ha]; rfl
          replace ha := Lib.hid ha
          refine region_made (m := 47) rfl (slotF a ks11) dst11 (pm T3) _ (by kernel_rfl) slotF_init (by kernel_rfl) ?_ pm_below (fun u i v => slotF_put v (ks_dst i)) ?_ ?_ ?_
          · intro i j hi hj h; unfold dst11 at h; split at h <;> split at h <;> omega
          · repeat (first | exact trivial | refine each_cons ⟨rfl, rfl⟩ ?_)
          · skip
            refine each_cons (n := 0) ?_ ?_
            · intro u W hb hd
              refine ⟨.agg #[.int .i64 0, .int .i64 0, .slice none 0 0, .slice none 0 0], W, ?_, (Below.refl _ _), ⟨_, _, rfl, .inl ⟨rfl, rfl⟩, picksV_nil _⟩⟩
              go_simp
            refine each_cons (n := 1) ?_ ?_
            · intro u W hb hd
              refine ⟨.agg #[.int .i64 1, .int .i64 1, .slice none 0 0, .slice none 0 0], W, ?_, (Below.refl _ _), ⟨_, _, rfl, .inl ⟨rfl, rfl⟩, picksV_nil _⟩⟩
              go_simp
            refine each_cons (n := 2) ?_ ?_
            · intro u W hb hd
              have hm : (Instr.makeSlice 24 (.int .i64 9) (.int .i64 9)).run Try.prog W = .ok (.slice (some ⟨W.heap.size, 0, none⟩) 9 9) (W.alloc (.cells (madeCells #[.slice none 0 0] 9) 42)) := make24 9 (by decide) W
              refine ⟨.slice (some ⟨W.heap.size, 0, none⟩) 9 9, (W.alloc (.cells (madeCells #[.slice none 0 0] 9) 42)), ?_, ((Below.refl _ _).alloc (Nat.le_refl _) _), listsV_made W 9⟩
              go_simp
            refine each_cons (n := 3) ?_ ?_
            · intro u W hb hd
              have d2 : ListsV (List.replicate 9 []) (u 47) W := hd { on := 2, ground := Ground.data } (by simp) rfl
              have g47 : (slotF a ks11 u).tmps[47]?.getD undef = u 47 := slotF_in rfl (by rw [hs]; decide)
              have d' := d2
              obtain ⟨sg, sc, e', _⟩ := d'
              rw [e'] at g47 d2
              clear e'
              refine ⟨.agg #[.int .i64 9, .int .i64 1, .slice (some ⟨sg, 0, none⟩) (List.length (α := List Cl) (List.replicate 9 [])) sc, .slice none 0 0], W, ?_, (Below.refl _ _), ⟨_, _, rfl, .inr d2, picksV_nil _⟩⟩
              go_simp
            refine each_cons (n := 4) ?_ ?_
            · intro u W hb hd
              have g3 : (slotF a ks11 u).tmps[3]?.getD undef = .pointer (some ⟨T3, 0, none⟩) := (slotF_out (ks := ks11) (a := a) (u := u) (j := 3) rfl).trans h3
              refine ⟨.pointer (some ⟨T3, 2, none⟩), W, ?_, (Below.refl _ _), rfl⟩
              go_simp
            refine each_cons (n := 5) ?_ ?_
            · intro u W hb hd
              have d4 : u 49 = .pointer (some ⟨T3, 2, none⟩) := hd { on := 4, ground := Ground.data } (by simp) rfl
              have g49 : (slotF a ks11 u).tmps[49]?.getD undef = u 49 := slotF_in rfl (by rw [hs]; decide)
              rw [d4] at g49
              have c2 := (S11.out.2.2.below hb).cell (i := 2) rfl
              refine ⟨.slice (some ⟨C3, 0, none⟩) 1 1, W, ?_, (Below.refl _ _), scr_lists (s := ⟨1, 1, [[]], []⟩) (S11.out.1.below hb)⟩
              go_simp
            refine each_cons (n := 6) ?_ ?_
            · intro u W hb hd
              have d5 : ListsV ([[]]) (u 50) W := hd { on := 5, ground := Ground.data } (by simp) rfl
              have g50 : (slotF a ks11 u).tmps[50]?.getD undef = u 50 := slotF_in rfl (by rw [hs]; decide)
              have d' := d5
              obtain ⟨sg, sc, e', _⟩ := d'
              rw [e'] at g50 d5
              clear e'
              refine ⟨.agg #[.int .i64 1, .int .i64 0, .slice (some ⟨sg, 0, none⟩) (List.length (α := List Cl) ([[]])) sc, .slice none 0 0], W, ?_, (Below.refl _ _), ⟨_, _, rfl, .inr d5, picksV_nil _⟩⟩
              go_simp
            refine each_cons (n := 7) ?_ ?_
            · intro u W hb hd
              have g3 : (slotF a ks11 u).tmps[3]?.getD undef = .pointer (some ⟨T3, 0, none⟩) := (slotF_out (ks := ks11) (a := a) (u := u) (j := 3) rfl).trans h3
              refine ⟨.pointer (some ⟨T3, 2, none⟩), W, ?_, (Below.refl _ _), rfl⟩
              go_simp
            refine each_cons (n := 8) ?_ ?_
            · intro u W hb hd
              have d7 : u 52 = .pointer (some ⟨T3, 2, none⟩) := hd { on := 7, ground := Ground.data } (by simp) rfl
              have g52 : (slotF a ks11 u).tmps[52]?.getD undef = u 52 := slotF_in rfl (by rw [hs]; decide)
              rw [d7] at g52
              have c2 := (S11.out.2.2.below hb).cell (i := 2) rfl
              refine ⟨.slice (some ⟨C3, 0, none⟩) 1 1, W, ?_, (Below.refl _ _), scr_lists (s := ⟨1, 1, [[]], []⟩) (S11.out.1.below hb)⟩
              go_simp
            refine each_cons (n := 9) ?_ ?_
            · intro u W hb hd
              have d8 : ListsV ([[]]) (u 53) W := hd { on := 8, ground := Ground.data } (by simp) rfl
              have g53 : (slotF a ks11 u).tmps[53]?.getD undef = u 53 := slotF_in rfl (by rw [hs]; decide)
              have d' := d8
              obtain ⟨sg, sc, e', _⟩ := d'
              rw [e'] at g53 d8
              clear e'
              refine ⟨.agg #[.int .i64 1, .int .i64 1025, .slice (some ⟨sg, 0, none⟩) (List.length (α := List Cl) ([[]])) sc, .slice none 0 0], W, ?_, (Below.refl _ _), ⟨_, _, rfl, .inr d8, picksV_nil _⟩⟩
              go_simp
            refine each_cons (n := 10) ?_ ?_
            · intro u W hb hd
              have hm : (Instr.makeSlice 42 (.int .i64 65) (.int .i64 65)).run Try.prog W = .ok (.slice (some ⟨W.heap.size, 0, none⟩) 65 65) (W.alloc (.cells (madeCells z4 260) 44)) := make42 65 260 rfl (by decide) W
              refine ⟨.slice (some ⟨W.heap.size, 0, none⟩) 65 65, (W.alloc (.cells (madeCells z4 260) 44)), ?_, ((Below.refl _ _).alloc (Nat.le_refl _) _), callsV_made W 65 260 rfl⟩
              go_simp
            refine each_cons (n := 11) ?_ ?_
            · intro u W hb hd
              have d10 : CallsV (zl 65) (u 55) W := hd { on := 10, ground := Ground.data } (by simp) rfl
              have g55 : (slotF a ks11 u).tmps[55]?.getD undef = u 55 := slotF_in rfl (by rw [hs]; decide)
              have d' := d10
              obtain ⟨sa, sc, e', _⟩ := d'
              rw [e'] at g55 d10
              clear e'
              refine ⟨.slice (some ⟨W.heap.size, 0, none⟩) 1 1, (W.alloc (.cells #[.slice sa (List.length (α := Cl) (zl 65)) sc] 42)), ?_, ((Below.refl _ _).alloc (Nat.le_refl _) _), listsV_one d10⟩
              go_simp
            refine each_cons (n := 12) ?_ ?_
            · intro u W hb hd
              have d11 : ListsV ([zl 65]) (u 56) W := hd { on := 11, ground := Ground.data } (by simp) rfl
              have g56 : (slotF a ks11 u).tmps[56]?.getD undef = u 56 := slotF_in rfl (by rw [hs]; decide)
              have d' := d11
              obtain ⟨sg, sc, e', _⟩ := d'
              rw [e'] at g56 d11
              clear e'
              refine ⟨.agg #[.int .i64 1, .int .i64 1, .slice (some ⟨sg, 0, none⟩) (List.length (α := List Cl) ([zl 65])) sc, .slice none 0 0], W, ?_, (Below.refl _ _), ⟨_, _, rfl, .inr d11, picksV_nil _⟩⟩
              go_simp
            refine each_cons (n := 13) ?_ ?_
            · intro u W hb hd
              refine ⟨.agg #[.int .i64 14, .int .i64 0, .int .i64 0, .int .i64 0], W, ?_, (Below.refl _ _), rfl⟩
              go_simp
            refine each_cons (n := 14) ?_ ?_
            · intro u W hb hd
              have d13 : u 58 = .agg #[.int .i64 14, .int .i64 0, .int .i64 0, .int .i64 0] := hd { on := 13, ground := Ground.data } (by simp) rfl
              have g58 : (slotF a ks11 u).tmps[58]?.getD undef = u 58 := slotF_in rfl (by rw [hs]; decide)
              rw [d13] at g58
              refine ⟨.slice (some ⟨W.heap.size, 0, none⟩) 1 1, (W.alloc (.cells #[.int .i64 14, .int .i64 0, .int .i64 0, .int .i64 0] 44)), ?_, ((Below.refl _ _).alloc (Nat.le_refl _) _), callsV_one W (14, 0, 0, 0)⟩
              go_simp
            refine each_cons (n := 15) ?_ ?_
            · intro u W hb hd
              have d14 : CallsV ([(14, 0, 0, 0)]) (u 59) W := hd { on := 14, ground := Ground.data } (by simp) rfl
              have g59 : (slotF a ks11 u).tmps[59]?.getD undef = u 59 := slotF_in rfl (by rw [hs]; decide)
              have d' := d14
              obtain ⟨sa, sc, e', _⟩ := d'
              rw [e'] at g59 d14
              clear e'
              refine ⟨.slice (some ⟨W.heap.size, 0, none⟩) 1 1, (W.alloc (.cells #[.slice sa (List.length (α := Cl) ([(14, 0, 0, 0)])) sc] 42)), ?_, ((Below.refl _ _).alloc (Nat.le_refl _) _), listsV_one d14⟩
              go_simp
            refine each_cons (n := 16) ?_ ?_
            · intro u W hb hd
              have d15 : ListsV ([[(14, 0, 0, 0)]]) (u 60) W := hd { on := 15, ground := Ground.data } (by simp) rfl
              have g60 : (slotF a ks11 u).tmps[60]?.getD undef = u 60 := slotF_in rfl (by rw [hs]; decide)
              have d' := d15
              obtain ⟨sg, sc, e', _⟩ := d'
              rw [e'] at g60 d15
              clear e'
              refine ⟨.agg #[.int .i64 1, .int .i64 1, .slice (some ⟨sg, 0, none⟩) (List.length (α := List Cl) ([[(14, 0, 0, 0)]])) sc, .slice none 0 0], W, ?_, (Below.refl _ _), ⟨_, _, rfl, .inr d15, picksV_nil _⟩⟩
              go_simp
            refine each_cons (n := 17) ?_ ?_
            · intro u W hb hd
              refine ⟨.agg #[.int .i64 (-1), .int .i64 0, .int .i64 0, .int .i64 0], W, ?_, (Below.refl _ _), rfl⟩
              go_simp
            refine each_cons (n := 18) ?_ ?_
            · intro u W hb hd
              have d17 : u 62 = .agg #[.int .i64 (-1), .int .i64 0, .int .i64 0, .int .i64 0] := hd { on := 17, ground := Ground.data } (by simp) rfl
              have g62 : (slotF a ks11 u).tmps[62]?.getD undef = u 62 := slotF_in rfl (by rw [hs]; decide)
              rw [d17] at g62
              refine ⟨.slice (some ⟨W.heap.size, 0, none⟩) 1 1, (W.alloc (.cells #[.int .i64 (-1), .int .i64 0, .int .i64 0, .int .i64 0] 44)), ?_, ((Below.refl _ _).alloc (Nat.le_refl _) _), callsV_one W (-1, 0, 0, 0)⟩
              go_simp
            refine each_cons (n := 19) ?_ ?_
            · intro u W hb hd
              have d18 : CallsV ([(-1, 0, 0, 0)]) (u 63) W := hd { on := 18, ground := Ground.data } (by simp) rfl
              have g63 : (slotF a ks11 u).tmps[63]?.getD undef = u 63 := slotF_in rfl (by rw [hs]; decide)
              have d' := d18
              obtain ⟨sa, sc, e', _⟩ := d'
              rw [e'] at g63 d18
              clear e'
              refine ⟨.slice (some ⟨W.heap.size, 0, none⟩) 1 1, (W.alloc (.cells #[.slice sa (List.length (α := Cl) ([(-1, 0, 0, 0)])) sc] 42)), ?_, ((Below.refl _ _).alloc (Nat.le_refl _) _), listsV_one d18⟩
              go_simp
            refine each_cons (n := 20) ?_ ?_
            · intro u W hb hd
              have d19 : ListsV ([[(-1, 0, 0, 0)]]) (u 64) W := hd { on := 19, ground := Ground.data } (by simp) rfl
              have g64 : (slotF a ks11 u).tmps[64]?.getD undef = u 64 := slotF_in rfl (by rw [hs]; decide)
              have d' := d19
              obtain ⟨sg, sc, e', _⟩ := d'
              rw [e'] at g64 d19
              clear e'
              refine ⟨.agg #[.int .i64 1, .int .i64 1, .slice (some ⟨sg, 0, none⟩) (List.length (α := List Cl) ([[(-1, 0, 0, 0)]])) sc, .slice none 0 0], W, ?_, (Below.refl _ _), ⟨_, _, rfl, .inr d19, picksV_nil _⟩⟩
              go_simp
            refine each_cons (n := 21) ?_ ?_
            · intro u W hb hd
              refine ⟨.agg #[.int .i64 0, .int .i64 256, .int .i64 0, .int .i64 0], W, ?_, (Below.refl _ _), rfl⟩
              go_simp
            refine each_cons (n := 22) ?_ ?_
            · intro u W hb hd
              have d21 : u 66 = .agg #[.int .i64 0, .int .i64 256, .int .i64 0, .int .i64 0] := hd { on := 21, ground := Ground.data } (by simp) rfl
              have g66 : (slotF a ks11 u).tmps[66]?.getD undef = u 66 := slotF_in rfl (by rw [hs]; decide)
              rw [d21] at g66
              refine ⟨.slice (some ⟨W.heap.size, 0, none⟩) 1 1, (W.alloc (.cells #[.int .i64 0, .int .i64 256, .int .i64 0, .int .i64 0] 44)), ?_, ((Below.refl _ _).alloc (Nat.le_refl _) _), callsV_one W (0, 256, 0, 0)⟩
              go_simp
            refine each_cons (n := 23) ?_ ?_
            · intro u W hb hd
              have d22 : CallsV ([(0, 256, 0, 0)]) (u 67) W := hd { on := 22, ground := Ground.data } (by simp) rfl
              have g67 : (slotF a ks11 u).tmps[67]?.getD undef = u 67 := slotF_in rfl (by rw [hs]; decide)
              have d' := d22
              obtain ⟨sa, sc, e', _⟩ := d'
              rw [e'] at g67 d22
              clear e'
              refine ⟨.slice (some ⟨W.heap.size, 0, none⟩) 1 1, (W.alloc (.cells #[.slice sa (List.length (α := Cl) ([(0, 256, 0, 0)])) sc] 42)), ?_, ((Below.refl _ _).alloc (Nat.le_refl _) _), listsV_one d22⟩
              go_simp
            refine each_cons (n := 24) ?_ ?_
            · intro u W hb hd
              have d23 : ListsV ([[(0, 256, 0, 0)]]) (u 68) W := hd { on := 23, ground := Ground.data } (by simp) rfl
              have g68 : (slotF a ks11 u).tmps[68]?.getD undef = u 68 := slotF_in rfl (by rw [hs]; decide)
              have d' := d23
              obtain ⟨sg, sc, e', _⟩ := d'
              rw [e'] at g68 d23
              clear e'
              refine ⟨.agg #[.int .i64 1, .int .i64 1, .slice (some ⟨sg, 0, none⟩) (List.length (α := List Cl) ([[(0, 256, 0, 0)]])) sc, .slice none 0 0], W, ?_, (Below.refl _ _), ⟨_, _, rfl, .inr d23, picksV_nil _⟩⟩
              go_simp
            refine each_cons (n := 25) ?_ ?_
            · intro u W hb hd
              refine ⟨.agg #[.int .i64 0, .int .i64 0, .int .i64 65536, .int .i64 0], W, ?_, (Below.refl _ _), rfl⟩
              go_simp
            refine each_cons (n := 26) ?_ ?_
            · intro u W hb hd
              have d25 : u 70 = .agg #[.int .i64 0, .int .i64 0, .int .i64 65536, .int .i64 0] := hd { on := 25, ground := Ground.data } (by simp) rfl
              have g70 : (slotF a ks11 u).tmps[70]?.getD undef = u 70 := slotF_in rfl (by rw [hs]; decide)
              rw [d25] at g70
              refine ⟨.slice (some ⟨W.heap.size, 0, none⟩) 1 1, (W.alloc (.cells #[.int .i64 0, .int .i64 0, .int .i64 65536, .int .i64 0] 44)), ?_, ((Below.refl _ _).alloc (Nat.le_refl _) _), callsV_one W (0, 0, 65536, 0)⟩
              go_simp
            refine each_cons (n := 27) ?_ ?_
            · intro u W hb hd
              have d26 : CallsV ([(0, 0, 65536, 0)]) (u 71) W := hd { on := 26, ground := Ground.data } (by simp) rfl
              have g71 : (slotF a ks11 u).tmps[71]?.getD undef = u 71 := slotF_in rfl (by rw [hs]; decide)
              have d' := d26
              obtain ⟨sa, sc, e', _⟩ := d'
              rw [e'] at g71 d26
              clear e'
              refine ⟨.slice (some ⟨W.heap.size, 0, none⟩) 1 1, (W.alloc (.cells #[.slice sa (List.length (α := Cl) ([(0, 0, 65536, 0)])) sc] 42)), ?_, ((Below.refl _ _).alloc (Nat.le_refl _) _), listsV_one d26⟩
              go_simp
            refine each_cons (n := 28) ?_ ?_
            · intro u W hb hd
              have d27 : ListsV ([[(0, 0, 65536, 0)]]) (u 72) W := hd { on := 27, ground := Ground.data } (by simp) rfl
              have g72 : (slotF a ks11 u).tmps[72]?.getD undef = u 72 := slotF_in rfl (by rw [hs]; decide)
              have d' := d27
              obtain ⟨sg, sc, e', _⟩ := d'
              rw [e'] at g72 d27
              clear e'
              refine ⟨.agg #[.int .i64 1, .int .i64 1, .slice (some ⟨sg, 0, none⟩) (List.length (α := List Cl) ([[(0, 0, 65536, 0)]])) sc, .slice none 0 0], W, ?_, (Below.refl _ _), ⟨_, _, rfl, .inr d27, picksV_nil _⟩⟩
              go_simp
            refine each_cons (n := 29) ?_ ?_
            · intro u W hb hd
              refine ⟨.agg #[.int .i64 0, .int .i64 0, .int .i64 0, .int .i64 (-1)], W, ?_, (Below.refl _ _), rfl⟩
              go_simp
            refine each_cons (n := 30) ?_ ?_
            · intro u W hb hd
              have d29 : u 74 = .agg #[.int .i64 0, .int .i64 0, .int .i64 0, .int .i64 (-1)] := hd { on := 29, ground := Ground.data } (by simp) rfl
              have g74 : (slotF a ks11 u).tmps[74]?.getD undef = u 74 := slotF_in rfl (by rw [hs]; decide)
              rw [d29] at g74
              refine ⟨.slice (some ⟨W.heap.size, 0, none⟩) 1 1, (W.alloc (.cells #[.int .i64 0, .int .i64 0, .int .i64 0, .int .i64 (-1)] 44)), ?_, ((Below.refl _ _).alloc (Nat.le_refl _) _), callsV_one W (0, 0, 0, -1)⟩
              go_simp
            refine each_cons (n := 31) ?_ ?_
            · intro u W hb hd
              have d30 : CallsV ([(0, 0, 0, -1)]) (u 75) W := hd { on := 30, ground := Ground.data } (by simp) rfl
              have g75 : (slotF a ks11 u).tmps[75]?.getD undef = u 75 := slotF_in rfl (by rw [hs]; decide)
              have d' := d30
              obtain ⟨sa, sc, e', _⟩ := d'
              rw [e'] at g75 d30
              clear e'
              refine ⟨.slice (some ⟨W.heap.size, 0, none⟩) 1 1, (W.alloc (.cells #[.slice sa (List.length (α := Cl) ([(0, 0, 0, -1)])) sc] 42)), ?_, ((Below.refl _ _).alloc (Nat.le_refl _) _), listsV_one d30⟩
              go_simp
            refine each_cons (n := 32) ?_ ?_
            · intro u W hb hd
              have d31 : ListsV ([[(0, 0, 0, -1)]]) (u 76) W := hd { on := 31, ground := Ground.data } (by simp) rfl
              have g76 : (slotF a ks11 u).tmps[76]?.getD undef = u 76 := slotF_in rfl (by rw [hs]; decide)
              have d' := d31
              obtain ⟨sg, sc, e', _⟩ := d'
              rw [e'] at g76 d31
              clear e'
              refine ⟨.agg #[.int .i64 1, .int .i64 1, .slice (some ⟨sg, 0, none⟩) (List.length (α := List Cl) ([[(0, 0, 0, -1)]])) sc, .slice none 0 0], W, ?_, (Below.refl _ _), ⟨_, _, rfl, .inr d31, picksV_nil _⟩⟩
              go_simp
            refine each_cons (n := 33) ?_ ?_
            · intro u W hb hd
              have g3 : (slotF a ks11 u).tmps[3]?.getD undef = .pointer (some ⟨T3, 0, none⟩) := (slotF_out (ks := ks11) (a := a) (u := u) (j := 3) rfl).trans h3
              refine ⟨.pointer (some ⟨T3, 2, none⟩), W, ?_, (Below.refl _ _), rfl⟩
              go_simp
            refine each_cons (n := 34) ?_ ?_
            · intro u W hb hd
              have d33 : u 78 = .pointer (some ⟨T3, 2, none⟩) := hd { on := 33, ground := Ground.data } (by simp) rfl
              have g78 : (slotF a ks11 u).tmps[78]?.getD undef = u 78 := slotF_in rfl (by rw [hs]; decide)
              rw [d33] at g78
              have c2 := (S11.out.2.2.below hb).cell (i := 2) rfl
              refine ⟨.slice (some ⟨C3, 0, none⟩) 1 1, W, ?_, (Below.refl _ _), scr_lists (s := ⟨1, 1, [[]], []⟩) (S11.out.1.below hb)⟩
              go_simp
            refine each_cons (n := 35) ?_ ?_
            · intro u W hb hd
              refine ⟨.slice (some ⟨W.heap.size, 0, none⟩) 1 1, (W.alloc (.cells #[.int .i64 (256)] 3)), ?_, ((Below.refl _ _).alloc (Nat.le_refl _) _), picksV_one W (256)⟩
              go_simp
            refine each_cons (n := 36) ?_ ?_
            · intro u W hb hd
              have d34 : ListsV [[]] (u 79) W := hd { on := 34, ground := Ground.data } (by simp) rfl
              have g79 : (slotF a ks11 u).tmps[79]?.getD undef = u 79 := slotF_in rfl (by rw [hs]; decide)
              have d35 : PicksV ([256]) (u 80) W := hd { on := 35, ground := Ground.data } (by simp) rfl
              have g80 : (slotF a ks11 u).tmps[80]?.getD undef = u 80 := slotF_in rfl (by rw [hs]; decide)
              have d' := d34
              obtain ⟨sg, sc, e', _⟩ := d'
              rw [e'] at g79 d34
              clear e'
              have d' := d35
              obtain ⟨pg, pc, e', _⟩ := d'
              rw [e'] at g80 d35
              clear e'
              refine ⟨.agg #[.int .i64 1, .int .i64 1, .slice (some ⟨sg, 0, none⟩) (List.length (α := List Cl) [[]]) sc, .slice pg (List.length (α := Int) ([256])) pc], W, ?_, (Below.refl _ _), ⟨_, _, rfl, .inr d34, d35⟩⟩
              go_simp
            refine each_cons (n := 37) ?_ ?_
            · intro u W hb hd
              have g3 : (slotF a ks11 u).tmps[3]?.getD undef = .pointer (some ⟨T3, 0, none⟩) := (slotF_out (ks := ks11) (a := a) (u := u) (j := 3) rfl).trans h3
              refine ⟨.pointer (some ⟨T3, 2, none⟩), W, ?_, (Below.refl _ _), rfl⟩
              go_simp
            refine each_cons (n := 38) ?_ ?_
            · intro u W hb hd
              have d37 : u 82 = .pointer (some ⟨T3, 2, none⟩) := hd { on := 37, ground := Ground.data } (by simp) rfl
              have g82 : (slotF a ks11 u).tmps[82]?.getD undef = u 82 := slotF_in rfl (by rw [hs]; decide)
              rw [d37] at g82
              have c2 := (S11.out.2.2.below hb).cell (i := 2) rfl
              refine ⟨.slice (some ⟨C3, 0, none⟩) 1 1, W, ?_, (Below.refl _ _), scr_lists (s := ⟨1, 1, [[]], []⟩) (S11.out.1.below hb)⟩
              go_simp
            refine each_cons (n := 39) ?_ ?_
            · intro u W hb hd
              refine ⟨.slice (some ⟨W.heap.size, 0, none⟩) 1 1, (W.alloc (.cells #[.int .i64 (-1)] 3)), ?_, ((Below.refl _ _).alloc (Nat.le_refl _) _), picksV_one W (-1)⟩
              go_simp
            refine each_cons (n := 40) ?_ ?_
            · intro u W hb hd
              have d38 : ListsV [[]] (u 83) W := hd { on := 38, ground := Ground.data } (by simp) rfl
              have g83 : (slotF a ks11 u).tmps[83]?.getD undef = u 83 := slotF_in rfl (by rw [hs]; decide)
              have d39 : PicksV ([-1]) (u 84) W := hd { on := 39, ground := Ground.data } (by simp) rfl
              have g84 : (slotF a ks11 u).tmps[84]?.getD undef = u 84 := slotF_in rfl (by rw [hs]; decide)
              have d' := d38
              obtain ⟨sg, sc, e', _⟩ := d'
              rw [e'] at g83 d38
              clear e'
              have d' := d39
              obtain ⟨pg, pc, e', _⟩ := d'
              rw [e'] at g84 d39
              clear e'
              refine ⟨.agg #[.int .i64 1, .int .i64 1, .slice (some ⟨sg, 0, none⟩) (List.length (α := List Cl) [[]]) sc, .slice pg (List.length (α := Int) ([-1])) pc], W, ?_, (Below.refl _ _), ⟨_, _, rfl, .inr d38, d39⟩⟩
              go_simp
            refine each_cons (n := 41) ?_ ?_
            · intro u W hb hd
              have g3 : (slotF a ks11 u).tmps[3]?.getD undef = .pointer (some ⟨T3, 0, none⟩) := (slotF_out (ks := ks11) (a := a) (u := u) (j := 3) rfl).trans h3
              refine ⟨.pointer (some ⟨T3, 2, none⟩), W, ?_, (Below.refl _ _), rfl⟩
              go_simp
            refine each_cons (n := 42) ?_ ?_
            · intro u W hb hd
              have d41 : u 86 = .pointer (some ⟨T3, 2, none⟩) := hd { on := 41, ground := Ground.data } (by simp) rfl
              have g86 : (slotF a ks11 u).tmps[86]?.getD undef = u 86 := slotF_in rfl (by rw [hs]; decide)
              rw [d41] at g86
              have c2 := (S11.out.2.2.below hb).cell (i := 2) rfl
              refine ⟨.slice (some ⟨C3, 0, none⟩) 1 1, W, ?_, (Below.refl _ _), scr_lists (s := ⟨1, 1, [[]], []⟩) (S11.out.1.below hb)⟩
              go_simp
            refine each_cons (n := 43) ?_ ?_
            · intro u W hb hd
              have hm : (Instr.makeSlice 25 (.int .i64 4097) (.int .i64 4097)).run Try.prog W = .ok (.slice (some ⟨W.heap.size, 0, none⟩) 4097 4097) (W.alloc (.cells (madeCells #[.int .i64 0] 4097) 3)) := make25 4097 (by decide) W
              refine ⟨.slice (some ⟨W.heap.size, 0, none⟩) 4097 4097, (W.alloc (.cells (madeCells #[.int .i64 0] 4097) 3)), ?_, ((Below.refl _ _).alloc (Nat.le_refl _) _), picksV_made W 4097 (by decide)⟩
              go_simp
            refine each_cons (n := 44) ?_ ?_
            · intro u W hb hd
              have d42 : ListsV [[]] (u 87) W := hd { on := 42, ground := Ground.data } (by simp) rfl
              have g87 : (slotF a ks11 u).tmps[87]?.getD undef = u 87 := slotF_in rfl (by rw [hs]; decide)
              have d43 : PicksV (List.replicate 4097 0) (u 88) W := hd { on := 43, ground := Ground.data } (by simp) rfl
              have g88 : (slotF a ks11 u).tmps[88]?.getD undef = u 88 := slotF_in rfl (by rw [hs]; decide)
              have d' := d42
              obtain ⟨sg, sc, e', _⟩ := d'
              rw [e'] at g87 d42
              clear e'
              have d' := d43
              obtain ⟨pg, pc, e', _⟩ := d'
              rw [e'] at g88 d43
              clear e'
              refine ⟨.agg #[.int .i64 1, .int .i64 1, .slice (some ⟨sg, 0, none⟩) (List.length (α := List Cl) [[]]) sc, .slice pg (List.length (α := Int) (List.replicate 4097 0)) pc], W, ?_, (Below.refl _ _), ⟨_, _, rfl, .inr d42, d43⟩⟩
              go_simp
            refine each_cons (n := 45) ?_ ?_
            · intro u W hb hd
              have d0 : ScrV ⟨0, 0, [], []⟩ (u 45) W := hd { on := 0, ground := Ground.data } (by simp) rfl
              have g45 : (slotF a ks11 u).tmps[45]?.getD undef = u 45 := slotF_in rfl (by rw [hs]; decide)
              obtain ⟨a0, b0, c0, e0, f0⟩ := d0.form
              rw [f0] at g45 d0
              clear f0
              have d1 : ScrV ⟨1, 1, [], []⟩ (u 46) W := hd { on := 1, ground := Ground.data } (by simp) rfl
              have g46 : (slotF a ks11 u).tmps[46]?.getD undef = u 46 := slotF_in rfl (by rw [hs]; decide)
              obtain ⟨a1, b1, c1, e1, f1⟩ := d1.form
              rw [f1] at g46 d1
              clear f1
              have d3 : ScrV ⟨9, 1, List.replicate 9 [], []⟩ (u 48) W := hd { on := 3, ground := Ground.data } (by simp) rfl
              have g48 : (slotF a ks11 u).tmps[48]?.getD undef = u 48 := slotF_in rfl (by rw [hs]; decide)
              obtain ⟨a2, b2, c2, e2, f2⟩ := d3.form
              rw [f2] at g48 d3
              clear f2
              have d6 : ScrV ⟨1, 0, [[]], []⟩ (u 51) W := hd { on := 6, ground := Ground.data } (by simp) rfl
              have g51 : (slotF a ks11 u).tmps[51]?.getD undef = u 51 := slotF_in rfl (by rw [hs]; decide)
              obtain ⟨a3, b3, c3, e3, f3⟩ := d6.form
              rw [f3] at g51 d6
              clear f3
              have d9 : ScrV ⟨1, 1025, [[]], []⟩ (u 54) W := hd { on := 9, ground := Ground.data } (by simp) rfl
              have g54 : (slotF a ks11 u).tmps[54]?.getD undef = u 54 := slotF_in rfl (by rw [hs]; decide)
              obtain ⟨a4, b4, c4, e4, f4⟩ := d9.form
              rw [f4] at g54 d9
              clear f4
              have d12 : ScrV ⟨1, 1, [zl 65], []⟩ (u 57) W := hd { on := 12, ground := Ground.data } (by simp) rfl
              have g57 : (slotF a ks11 u).tmps[57]?.getD undef = u 57 := slotF_in rfl (by rw [hs]; decide)
              obtain ⟨a5, b5, c5, e5, f5⟩ := d12.form
              rw [f5] at g57 d12
              clear f5
              have d16 : ScrV ⟨1, 1, [[(14, 0, 0, 0)]], []⟩ (u 61) W := hd { on := 16, ground := Ground.data } (by simp) rfl
              have g61 : (slotF a ks11 u).tmps[61]?.getD undef = u 61 := slotF_in rfl (by rw [hs]; decide)
              obtain ⟨a6, b6, c6, e6, f6⟩ := d16.form
              rw [f6] at g61 d16
              clear f6
              have d20 : ScrV ⟨1, 1, [[(-1, 0, 0, 0)]], []⟩ (u 65) W := hd { on := 20, ground := Ground.data } (by simp) rfl
              have g65 : (slotF a ks11 u).tmps[65]?.getD undef = u 65 := slotF_in rfl (by rw [hs]; decide)
              obtain ⟨a7, b7, c7, e7, f7⟩ := d20.form
              rw [f7] at g65 d20
              clear f7
              have d24 : ScrV ⟨1, 1, [[(0, 256, 0, 0)]], []⟩ (u 69) W := hd { on := 24, ground := Ground.data } (by simp) rfl
              have g69 : (slotF a ks11 u).tmps[69]?.getD undef = u 69 := slotF_in rfl (by rw [hs]; decide)
              obtain ⟨a8, b8, c8, e8, f8⟩ := d24.form
              rw [f8] at g69 d24
              clear f8
              have d28 : ScrV ⟨1, 1, [[(0, 0, 65536, 0)]], []⟩ (u 73) W := hd { on := 28, ground := Ground.data } (by simp) rfl
              have g73 : (slotF a ks11 u).tmps[73]?.getD undef = u 73 := slotF_in rfl (by rw [hs]; decide)
              obtain ⟨a9, b9, c9, e9, f9⟩ := d28.form
              rw [f9] at g73 d28
              clear f9
              have d32 : ScrV ⟨1, 1, [[(0, 0, 0, -1)]], []⟩ (u 77) W := hd { on := 32, ground := Ground.data } (by simp) rfl
              have g77 : (slotF a ks11 u).tmps[77]?.getD undef = u 77 := slotF_in rfl (by rw [hs]; decide)
              obtain ⟨a10, b10, c10, e10, f10⟩ := d32.form
              rw [f10] at g77 d32
              clear f10
              have d36 : ScrV ⟨1, 1, [[]], [256]⟩ (u 81) W := hd { on := 36, ground := Ground.data } (by simp) rfl
              have g81 : (slotF a ks11 u).tmps[81]?.getD undef = u 81 := slotF_in rfl (by rw [hs]; decide)
              obtain ⟨a11, b11, c11, e11, f11⟩ := d36.form
              rw [f11] at g81 d36
              clear f11
              have d40 : ScrV ⟨1, 1, [[]], [-1]⟩ (u 85) W := hd { on := 40, ground := Ground.data } (by simp) rfl
              have g85 : (slotF a ks11 u).tmps[85]?.getD undef = u 85 := slotF_in rfl (by rw [hs]; decide)
              obtain ⟨a12, b12, c12, e12, f12⟩ := d40.form
              rw [f12] at g85 d40
              clear f12
              have d44 : ScrV ⟨1, 1, [[]], List.replicate 4097 0⟩ (u 89) W := hd { on := 44, ground := Ground.data } (by simp) rfl
              have g89 : (slotF a ks11 u).tmps[89]?.getD undef = u 89 := slotF_in rfl (by rw [hs]; decide)
              obtain ⟨a13, b13, c13, e13, f13⟩ := d44.form
              rw [f13] at g89 d44
              clear f13
              have hm := bs14 a0 b0 c0 e0 a1 b1 c1 e1 a2 b2 c2 e2 a3 b3 c3 e3 a4 b4 c4 e4 a5 b5 c5 e5 a6 b6 c6 e6 a7 b7 c7 e7 a8 b8 c8 e8 a9 b9 c9 e9 a10 b10 c10 e10 a11 b11 c11 e11 a12 b12 c12 e12 a13 b13 c13 e13 W
              refine ⟨.slice (some ⟨W.heap.size, 0, none⟩) 14 14, (W.alloc (.cells #[a0, b0, c0, e0, a1, b1, c1, e1, a2, b2, c2, e2, a3, b3, c3, e3, a4, b4, c4, e4, a5, b5, c5, e5, a6, b6, c6, e6, a7, b7, c7, e7, a8, b8, c8, e8, a9, b9, c9, e9, a10, b10, c10, e10, a11, b11, c11, e11, a12, b12, c12, e12, a13, b13, c13, e13] 27)), ?_, ((Below.refl _ _).alloc (Nat.le_refl _) _), allv14 d0 d1 d3 d6 d9 d12 d16 d20 d24 d28 d32 d36 d40 d44⟩
              go_simp
            refine each_cons (n := 46) ?_ ?_
            · intro u W hb hd
              have d45 : AllV (u 90) W := hd { on := 45, ground := Ground.data } (by simp) rfl
              have g90 : (slotF a ks11 u).tmps[90]?.getD undef = u 90 := slotF_in rfl (by rw [hs]; decide)
              refine ⟨u 90, W, ?_, (Below.refl _ _), d45⟩
              go_simp
            exact trivial
          · intro u w1 hb hp
            have hA := Lib.hid (show AllV (u 4) w1 from hp 46 (by decide))
            have hS := Lib.hid (show _ ∧ _ ∧ _ from ⟨S11.out.1.below hb, on S11.out.2.1 hb, S11.out.2.2.below hb⟩)
            clear hp hb S11 h3 hs
            rw [ha.out, slot11]
            clear ha
            go_wp2_with fail
            go_meet
            exact ⟨hA.out, hS.out⟩
        case rest =>
          obtain ⟨⟨G, rfl, hG⟩, hS, hb, hT⟩ := hcut
          have ST := Lib.hid (show Mid w T3 C3 G wc from ⟨hG, hS, hb, hT⟩)
          clear hG hS hb hT S11
          go_wp2_with fail
          go_loopw [5] (fun iv wr => ∃ i : Nat, i ≤ 14 ∧ iv = .int .i64 i ∧ Mid w T3 C3 G wr) (fun iv _ => 14 - (intOf iv).toNat)
          case atStart => exact ⟨0, by decide, rfl, ST.out⟩
          case round =>
            clear ST
            obtain ⟨i, hi, rfl, hM⟩ := hrel
            have M := Lib.hid hM
            clear hM
            by_cases hlt : i < 14
            · obtain ⟨s, hs⟩ : ∃ s, bads[i]? = some s := ⟨_, List.getElem?_eq_getElem (by rw [bads_len]; exact hlt)⟩
              obtain ⟨c0, c1, c2, c3, k0, k1, k2, k3, hv⟩ := M.out.all i s hs
              have V := Lib.hid (And.intro hv (And.intro (bads_bad i s hs) (bads_sz hs)))
              clear hv hs
              have z0 : (0 : Int) ≤ (i : Int) := by omega
              have z1 : (i : Int) < 14 := by omega
              have hE := V.out.2.1
              go_wp2_with fail
              refine (check_any _ s _ (V.out.1.at V.out.2.2.2.1 V.out.2.2.2.2).1).mono ?_
              rintro e wA ⟨he, hb⟩
              rw [hE] at he
              subst he
              clear hE
              replace k0 := below_cell hb (Nat.le_refl _) k0
              replace k1 := below_cell hb (Nat.le_refl _) k1
              replace k2 := below_cell hb (Nat.le_refl _) k2
              replace k3 := below_cell hb (Nat.le_refl _) k3
              replace V := Lib.hid (And.intro (V.out.1.below hb) V.out.2.2)
              replace M := Lib.hid (M.out.on hb)
              clear hb
              go_wp2_with fail
              refine (tapewhole_any _ s _ (V.out.1.at V.out.2.2.1 V.out.2.2.2).1).mono ?_
              rintro e wB ⟨rfl, hb⟩
              replace k0 := below_cell hb (Nat.le_refl _) k0
              replace k1 := below_cell hb (Nat.le_refl _) k1
              replace k2 := below_cell hb (Nat.le_refl _) k2
              replace k3 := below_cell hb (Nat.le_refl _) k3
              replace V := Lib.hid (And.intro (V.out.1.below hb) V.out.2)
              replace M := Lib.hid (M.out.on hb)
              clear hb
              go_wp2_with fail
              refine (tapebytes_any _ s _ (V.out.1.at V.out.2.2.1 V.out.2.2.2).1 (V.out.1.at V.out.2.2.1 V.out.2.2.2).2 V.out.2.1).mono ?_
              rintro e wC ⟨rfl, hb⟩
              replace M := Lib.hid (M.out.on hb)
              clear hb k0 k1 k2 k3 V
              go_wp2_with fail
              go_roundw
              case rel => exact ⟨i + 1, by omega, by go_num, M.out⟩
              case measure => simp [intOf]; omega
            · obtain rfl : i = 14 := by omega
              clear hlt hi
              go_wp2_with fail
              go_loopw [6] (fun iv wr => ∃ i : Nat, i ≤ 256 ∧ iv = .int .i64 i ∧ Mid w T3 C3 G wr) (fun iv _ => 256 - (intOf iv).toNat)
              case atStart => exact ⟨0, by decide, rfl, M.out⟩
              case round =>
                clear M
                obtain ⟨i, hi, rfl, hM⟩ := hrel
                have M := Lib.hid hM
                clear hM
                by_cases hlt : i < 256
                · have z0 : (0 : Int) ≤ (i : Int) := by omega
                  have z1 : (i : Int) < 256 := by omega
                  have m0 : 0 ≤ (i : Int) * 3 % 256 := Int.emod_nonneg _ (by decide)
                  have m1 : (i : Int) * 3 % 256 < 256 := Int.emod_lt_of_pos _ (by decide)
                  go_wp2_with fail
                  have HI := Lib.hid (bs10_sl wr i (i * 3 % 256))
                  have HB := Lib.hid (bs10_is z0 z1 m0 m1)
                  replace M := Lib.hid (M.out.on ((Below.refl _ _).alloc (Nat.le_refl _) (.cells #[.int .u8 i, .int .u8 (i * 3 % 256), .int .u8 i, .int .u8 i, .int .u8 i, .int .u8 1, .int .u8 2, .int .u8 3, .int .u8 4, .int .u8 i] 5)))
                  clear m0 m1
                  generalize (i : Int) * 3 % 256 = y at *
                  generalize wr.alloc (.cells #[.int .u8 i, .int .u8 y, .int .u8 i, .int .u8 i, .int .u8 i, .int .u8 1, .int .u8 2, .int .u8 3, .int .u8 4, .int .u8 i] 5) = W1 at *
                  generalize wr.heap.size = B1 at *
                  refine (tapescripts_any (bs10 i y) (some ⟨B1, 0, none⟩) 10 _ HB.out HI.out (fun h => by cases h) (by simp [bs10])).mono ?_
                  rintro e wA ⟨rfl, hb⟩
                  replace HI := Lib.hid (HI.out.below hb)
                  replace M := Lib.hid (M.out.on hb)
                  clear hb
                  go_wp2_with fail
                  refine (tapeback_any (bs10 i y) (some ⟨B1, 0, none⟩) 10 _ HB.out HI.out (by simp [bs10]) (by decide)).mono ?_
                  rintro e wB ⟨rfl, hb⟩
                  replace HI := Lib.hid (HI.out.below hb)
                  replace M := Lib.hid (M.out.on hb)
                  clear hb
                  have r0 : 0 ≤ (i : Int).tmod 10 := Int.tmod_nonneg _ z0
                  have r1 : (i : Int).tmod 10 < 10 := Int.tmod_lt_of_pos _ (by decide)
                  go_wp2_with fail
                  have hl : i % 10 ≤ 10 := by omega
                  have hC := tapescripts_any ((bs10 i y).take (i % 10)) (some ⟨B1, 0, none⟩) 10 wB (isBytes_take HB.out _) (HI.out.take _) (fun h => by cases h) (by rw [bs10_take hl]; omega)
                  rw [bs10_take hl] at hC
                  refine hC.mono ?_
                  clear hC r0 r1
                  rintro e wC ⟨rfl, hb⟩
                  replace M := Lib.hid (M.out.on hb)
                  clear hb HI HB
                  go_wp2_with fail
                  go_roundw
                  case rel =>
                    repeat apply Exists.intro
                    exact ⟨⟨i + 1, by omega, by go_num, M.out⟩, rfl⟩
                  case measure => simp [intOf]; omega
                · obtain ⟨q6, hq6⟩ : ∃ q : Int, q = (i : Int) := ⟨_, rfl⟩
                  rw [← hq6]
                  have hq6' : decide (q6 < 256) = false := decide_eq_false (by omega)
                  clear hq6 hlt hi
                  go_wp2_with fail
                  refine (works_any _).mono ?_
                  rintro e wA ⟨rfl, hb⟩
                  replace M := Lib.hid (M.out.on hb)
                  clear hb
                  obtain ⟨t0, t1, t2, t3⟩ := tcells M.out.t3
                  go_wp2_with fail
                  refine (tapewhole_any _ _ _ (M.out.one.at (by decide) (by decide)).1).mono ?_
                  rintro e wB ⟨rfl, hb⟩
                  replace M := Lib.hid (M.out.on hb)
                  clear hb t0 t1 t2 t3
                  have hm22 : ∀ W : World, (Instr.makeSlice 22 (.int .i64 9000) (.int .i64 9000)).run Try.prog W = .ok (.slice (some ⟨W.heap.size, 0, none⟩) 9000 9000) (W.alloc (.cells (madeCells #[.int .u8 0] 9000) 5)) := fun W => make22 9000 (by decide) W
                  go_wp2_with fail
                  have HZ := Lib.hid (zb_sl wB 9000 (by decide))
                  replace M := Lib.hid (M.out.on ((Below.refl _ _).alloc (Nat.le_refl _) (.cells (madeCells #[.int .u8 0] 9000) 5)))
                  have hC := tapeback_any (List.replicate 9000 0) (some ⟨wB.heap.size, 0, none⟩) 9000 _ (zb_is 9000) HZ.out (by rw [List.length_replicate]; decide) (by decide)
                  rw [List.length_replicate] at hC
                  refine hC.mono ?_
                  clear hC HZ
                  rintro e wC ⟨rfl, hb⟩
                  replace M := Lib.hid (M.out.on hb)
                  clear hb
                  go_wp2_with fail
                  go_ret
                  exact ⟨rfl, M.out.below⟩
end Go.Proofs.Ytdjhkiahpidldaa
