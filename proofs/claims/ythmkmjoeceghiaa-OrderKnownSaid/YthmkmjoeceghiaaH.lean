/- The reference's heap: New, Do and Play. -/
import Derived.Test.YthmkmjoeceghiaaG
namespace Go.Proofs.Ythmkmjoeceghiaa
open Go.RowKit

attribute [local go_sem ↓] Go.wp_at_zero Go.wp_at_succ
set_option maxHeartbeats 400000 in
theorem rnew_any (w : World) : Calls Try.prog 38 #[] w fun e w' => e = .returned (.pointer (some ⟨w.heap.size, 0, none⟩)) ∧ Rh w' w.heap.size w.heap.size [] ∧ Below w.heap.size w w' := by
  have h2 := Blk.new w #[.slice none 0 0] 96
  have H : Hid (Rh (w.alloc (.cells #[.slice none 0 0] 96)) w.heap.size w.heap.size []) := ⟨Nat.le_refl _, _, h2, World.ownsRow_nil _ _ _ _⟩
  have HB := Lib.hid ((Below.refl w.heap.size w).alloc (Nat.le_refl _) (.cells #[.slice none 0 0] 96))
  clear h2
  go_enter Try.func38, Try.ntmps38
  go_wp2_with fail
  go_ret
  exact ⟨rfl, H.out, HB.out⟩

set_option maxRecDepth 100000 in
set_option maxHeartbeats 1000000 in
theorem rdo_any (b0 B : Nat) (S : List Ob) (d : Dd) (w : World) (h : Rh w b0 B S) (hw0 : b0 ≤ w.heap.size) (hl : S.length < 5000000000000) :
    Calls Try.prog 39 #[.pointer (some ⟨B, 0, none⟩), ddV d] w fun e w' => e = .returned (.int .i64 (doE S d)) ∧ Rh w' b0 B (doS S d) ∧ w.grownBy w' (some B) := by
  have H := Lib.hid h
  have hBl : B < w.heap.size := by obtain ⟨v, h1, _⟩ := h.val; exact h1.lt
  clear h
  obtain ⟨k, o0, o1, o2⟩ := d
  show Calls Try.prog 39 #[.pointer (some ⟨B, 0, none⟩), .agg #[.int .i64 k, .int .i64 o0, .int .i64 o1, .int .i64 o2]] w _
  by_cases h1 : k < 1
  · have hE : Hid (doE S (k, o0, o1, o2) = 2 ∧ doS S (k, o0, o1, o2) = S) := by
      have : doE S (k, o0, o1, o2) = 2 := by simp [doE, h1]
      exact ⟨this, by simp [doS, this]⟩
    go_enter Try.func39, Try.ntmps39
    go_wp2_with fail
    have hb2 : Below w.heap.size w ((w.alloc (.cells #[.int .i64 k, .int .i64 o0, .int .i64 o1, .int .i64 o2] 32)).alloc (.cells #[.int .i64 0, .int .i64 0, .int .i64 0] 30)) := ((Below.refl _ _).alloc (Nat.le_refl _) _).alloc (by simp) _
    go_ret
    exact ⟨ret1 hE.out.1.symm, by rw [hE.out.2]; exact H.out.below hb2, grown_of_below hb2 _⟩
  · by_cases h4 : 4 < k
    · have hE : Hid (doE S (k, o0, o1, o2) = 2 ∧ doS S (k, o0, o1, o2) = S) := by
        have : doE S (k, o0, o1, o2) = 2 := by simp [doE, h4]
        exact ⟨this, by simp [doS, this]⟩
      go_enter Try.func39, Try.ntmps39
      go_wp2_with fail
      have hb2 : Below w.heap.size w ((w.alloc (.cells #[.int .i64 k, .int .i64 o0, .int .i64 o1, .int .i64 o2] 32)).alloc (.cells #[.int .i64 0, .int .i64 0, .int .i64 0] 30)) := ((Below.refl _ _).alloc (Nat.le_refl _) _).alloc (by simp) _
      go_ret
      exact ⟨ret1 hE.out.1.symm, by rw [hE.out.2]; exact H.out.below hb2, grown_of_below hb2 _⟩
    · have hk : k = 1 ∨ k = 2 ∨ k = 3 ∨ k = 4 := by omega
      clear h1 h4
      rcases hk with rfl | rfl | rfl | rfl
      · by_cases hm : (o0, o1, o2) ∈ S
        · have hE : Hid (doE S (1, o0, o1, o2) = 270 ∧ doS S (1, o0, o1, o2) = S) := by
            have : doE S (1, o0, o1, o2) = 270 := by simp [doE, hm]
            exact ⟨this, by simp [doS, this]⟩
          go_enter Try.func39, Try.ntmps39
          go_wp2_with fail
          have hb2 : Below w.heap.size w ((w.alloc (.cells #[.int .i64 1, .int .i64 o0, .int .i64 o1, .int .i64 o2] 32)).alloc (.cells #[.int .i64 0, .int .i64 0, .int .i64 0] 30)) := ((Below.refl _ _).alloc (Nat.le_refl _) _).alloc (by simp) _
          have T := (Blk.new w #[.int .i64 1, .int .i64 o0, .int .i64 o1, .int .i64 o2] 32).alloc (.cells #[.int .i64 0, .int .i64 0, .int .i64 0] 30)
          generalize hWW : (w.alloc (.cells #[.int .i64 1, .int .i64 o0, .int .i64 o1, .int .i64 o2] 32)).alloc (.cells #[.int .i64 0, .int .i64 0, .int .i64 0] 30) = wr at hb2 T ⊢
          clear hWW
          have t0 := T.cell (i := 0) rfl
          have t1 := T.cell (i := 1) rfl
          have t2 := T.cell (i := 2) rfl
          have t3 := T.cell (i := 3) rfl
          simp at t0 t1 t2 t3
          have TT := Lib.hid T
          have RR := Lib.hid (H.out.below hb2)
          have HW := Lib.hid hb2
          have k0 := fun d os => cell_regrown t0 d os
          have k1 := fun d os => cell_regrown t1 d os
          have k2 := fun d os => cell_regrown t2 d os
          have k3 := fun d os => cell_regrown t3 d os
          clear T hb2
          have hm1 : decide ((o0, o1, o2) ∈ S) = true := by simpa using hm
          have hcall := fun (W : World) (h : Rh W b0 B S) => rhas_any b0 B S (o0, o1, o2) W h (by unfold maxLen; omega)
          rw [hm1] at hcall
          refine wp_region_quiet_below (by kernel_rfl) (by kernel_rfl) ?_
          repeat (quiet_step (first | (go_at_call 41; exact Calls.regrown_of (hcall _ (RR.out.below (below_regrown wr _ _))))))
          refine wpQuiet_nil ?_
          intro _ hw'
          obtain ⟨⟨dq, osq⟩, hw''⟩ := hw'
          subst hw''
          have hbq : Below wr.heap.size wr (Go.Sort.grow (redrawn wr dq) osq) := below_regrown wr dq osq
          dsimp only
          generalize Go.Sort.grow (redrawn wr dq) osq = wq at hbq ⊢
          clear k0 k1 k2 k3 hcall hm1
          replace TT := Lib.hid (TT.out.below hbq)
          replace RR := Lib.hid (RR.out.below hbq)
          replace HW := Lib.hid (on2 HW.out hbq)
          clear hbq t0 t1 t2 t3
          have t0 := TT.out.cell (i := 0) rfl
          have t1 := TT.out.cell (i := 1) rfl
          have t2 := TT.out.cell (i := 2) rfl
          have t3 := TT.out.cell (i := 3) rfl
          simp at t0 t1 t2 t3
          go_wp2_with fail
          go_ret
          exact ⟨ret1 hE.out.1.symm, by rw [hE.out.2]; exact RR.out, grown_of_below HW.out _⟩
        ·
          have hE : Hid (doE S (1, o0, o1, o2) = 0 ∧ doS S (1, o0, o1, o2) = putL S (o0, o1, o2)) := by
            have : doE S (1, o0, o1, o2) = 0 := by simp [doE, hm]
            exact ⟨this, by simp [doS, this]⟩
          go_enter Try.func39, Try.ntmps39
          go_wp2_with fail
          have hb2 : Below w.heap.size w ((w.alloc (.cells #[.int .i64 1, .int .i64 o0, .int .i64 o1, .int .i64 o2] 32)).alloc (.cells #[.int .i64 0, .int .i64 0, .int .i64 0] 30)) := ((Below.refl _ _).alloc (Nat.le_refl _) _).alloc (by simp) _
          have T := (Blk.new w #[.int .i64 1, .int .i64 o0, .int .i64 o1, .int .i64 o2] 32).alloc (.cells #[.int .i64 0, .int .i64 0, .int .i64 0] 30)
          generalize hWW : (w.alloc (.cells #[.int .i64 1, .int .i64 o0, .int .i64 o1, .int .i64 o2] 32)).alloc (.cells #[.int .i64 0, .int .i64 0, .int .i64 0] 30) = wr at hb2 T ⊢
          clear hWW
          have t0 := T.cell (i := 0) rfl
          have t1 := T.cell (i := 1) rfl
          have t2 := T.cell (i := 2) rfl
          have t3 := T.cell (i := 3) rfl
          simp at t0 t1 t2 t3
          have TT := Lib.hid T
          have RR := Lib.hid (H.out.below hb2)
          have HW := Lib.hid hb2
          have k0 := fun d os => cell_regrown t0 d os
          have k1 := fun d os => cell_regrown t1 d os
          have k2 := fun d os => cell_regrown t2 d os
          have k3 := fun d os => cell_regrown t3 d os
          clear T hb2
          have hm1 : decide ((o0, o1, o2) ∈ S) = false := by simpa using hm
          have hcall := fun (W : World) (h : Rh W b0 B S) => rhas_any b0 B S (o0, o1, o2) W h (by unfold maxLen; omega)
          rw [hm1] at hcall
          refine wp_region_quiet_below (by kernel_rfl) (by kernel_rfl) ?_
          repeat (quiet_step (first | (go_at_call 41; exact Calls.regrown_of (hcall _ (RR.out.below (below_regrown wr _ _))))))
          refine wpQuiet_nil ?_
          intro _ hw'
          obtain ⟨⟨dq, osq⟩, hw''⟩ := hw'
          subst hw''
          have hbq : Below wr.heap.size wr (Go.Sort.grow (redrawn wr dq) osq) := below_regrown wr dq osq
          dsimp only
          generalize Go.Sort.grow (redrawn wr dq) osq = wq at hbq ⊢
          clear k0 k1 k2 k3 hcall hm1
          replace TT := Lib.hid (TT.out.below hbq)
          replace RR := Lib.hid (RR.out.below hbq)
          replace HW := Lib.hid (on2 HW.out hbq)
          clear hbq t0 t1 t2 t3
          have t0 := TT.out.cell (i := 0) rfl
          have t1 := TT.out.cell (i := 1) rfl
          have t2 := TT.out.cell (i := 2) rfl
          have t3 := TT.out.cell (i := 3) rfl
          simp at t0 t1 t2 t3
          go_wp2_with fail
          have hBT : some w.heap.size ≠ some B := by simp; omega
          have tlt := TT.out.lt
          refine (put_any b0 B S (o0, o1, o2) _ RR.out (by have := HW.out.size; omega) hl).mono ?_
          rintro e wP ⟨⟨v, rfl⟩, r1, r2⟩
          have R1 := Lib.hid r1
          have R2 := Lib.hid (grown_trans (grown_of_below HW.out (some B)) r2)
          have u0 := (World.cell?_of_block (w := wq) (a := ⟨w.heap.size, 0, none⟩) (r2.block _ tlt hBT)).trans t0
          clear r1 r2 t0 t1 t2 t3
          go_wp2_with fail
          go_ret
          exact ⟨ret1 hE.out.1.symm, by rw [hE.out.2]; exact R1.out, R2.out⟩
      · by_cases h0 : (o0, o1, o2) = ((0, 0, 0) : Ob)
        · have hq := neq30 (x := (o0, o1, o2)) (y := (0, 0, 0)) false (by simpa using h0)
          have hE : Hid (doE S (2, o0, o1, o2) = 0 ∧ doS S (2, o0, o1, o2) = S) := by
            have : doE S (2, o0, o1, o2) = 0 := by simp [doE, h0]
            exact ⟨this, by simp [doS, this]⟩
          clear h0
          go_enter Try.func39, Try.ntmps39
          go_wp2_with fail
          have hb2 : Below w.heap.size w ((w.alloc (.cells #[.int .i64 2, .int .i64 o0, .int .i64 o1, .int .i64 o2] 32)).alloc (.cells #[.int .i64 0, .int .i64 0, .int .i64 0] 30)) := ((Below.refl _ _).alloc (Nat.le_refl _) _).alloc (by simp) _
          go_ret
          exact ⟨ret1 hE.out.1.symm, by rw [hE.out.2]; exact H.out.below hb2, grown_of_below hb2 _⟩
        · have hq := neq30 (x := (o0, o1, o2)) (y := (0, 0, 0)) true (by simpa using h0)
          have hE : Hid (doE S (2, o0, o1, o2) = 2 ∧ doS S (2, o0, o1, o2) = S) := by
            have : doE S (2, o0, o1, o2) = 2 := by simp [doE, h0]
            exact ⟨this, by simp [doS, this]⟩
          clear h0
          go_enter Try.func39, Try.ntmps39
          go_wp2_with fail
          have hb2 : Below w.heap.size w ((w.alloc (.cells #[.int .i64 2, .int .i64 o0, .int .i64 o1, .int .i64 o2] 32)).alloc (.cells #[.int .i64 0, .int .i64 0, .int .i64 0] 30)) := ((Below.refl _ _).alloc (Nat.le_refl _) _).alloc (by simp) _
          go_ret
          exact ⟨ret1 hE.out.1.symm, by rw [hE.out.2]; exact H.out.below hb2, grown_of_below hb2 _⟩
      · by_cases hm : (o0, o1, o2) ∈ S
        ·
          have hE : Hid (doE S (3, o0, o1, o2) = 0 ∧ doS S (3, o0, o1, o2) = dropL S (o0, o1, o2)) := by
            have : doE S (3, o0, o1, o2) = 0 := by simp [doE, hm]
            exact ⟨this, by simp [doS, this]⟩
          go_enter Try.func39, Try.ntmps39
          go_wp2_with fail
          have hb2 : Below w.heap.size w ((w.alloc (.cells #[.int .i64 3, .int .i64 o0, .int .i64 o1, .int .i64 o2] 32)).alloc (.cells #[.int .i64 0, .int .i64 0, .int .i64 0] 30)) := ((Below.refl _ _).alloc (Nat.le_refl _) _).alloc (by simp) _
          have T := (Blk.new w #[.int .i64 3, .int .i64 o0, .int .i64 o1, .int .i64 o2] 32).alloc (.cells #[.int .i64 0, .int .i64 0, .int .i64 0] 30)
          generalize hWW : (w.alloc (.cells #[.int .i64 3, .int .i64 o0, .int .i64 o1, .int .i64 o2] 32)).alloc (.cells #[.int .i64 0, .int .i64 0, .int .i64 0] 30) = wr at hb2 T ⊢
          clear hWW
          have t0 := T.cell (i := 0) rfl
          have t1 := T.cell (i := 1) rfl
          have t2 := T.cell (i := 2) rfl
          have t3 := T.cell (i := 3) rfl
          simp at t0 t1 t2 t3
          have TT := Lib.hid T
          have RR := Lib.hid (H.out.below hb2)
          have HW := Lib.hid hb2
          have k0 := fun d os => cell_regrown t0 d os
          have k1 := fun d os => cell_regrown t1 d os
          have k2 := fun d os => cell_regrown t2 d os
          have k3 := fun d os => cell_regrown t3 d os
          clear T hb2
          have hm1 : decide ((o0, o1, o2) ∈ S) = true := by simpa using hm
          have hcall := fun (W : World) (h : Rh W b0 B S) => rhas_any b0 B S (o0, o1, o2) W h (by unfold maxLen; omega)
          rw [hm1] at hcall
          refine wp_region_quiet_below (by kernel_rfl) (by kernel_rfl) ?_
          repeat (quiet_step (first | (go_at_call 41; exact Calls.regrown_of (hcall _ (RR.out.below (below_regrown wr _ _))))))
          refine wpQuiet_nil ?_
          intro _ hw'
          obtain ⟨⟨dq, osq⟩, hw''⟩ := hw'
          subst hw''
          have hbq : Below wr.heap.size wr (Go.Sort.grow (redrawn wr dq) osq) := below_regrown wr dq osq
          dsimp only
          generalize Go.Sort.grow (redrawn wr dq) osq = wq at hbq ⊢
          clear k0 k1 k2 k3 hcall hm1
          replace TT := Lib.hid (TT.out.below hbq)
          replace RR := Lib.hid (RR.out.below hbq)
          replace HW := Lib.hid (on2 HW.out hbq)
          clear hbq t0 t1 t2 t3
          have t0 := TT.out.cell (i := 0) rfl
          have t1 := TT.out.cell (i := 1) rfl
          have t2 := TT.out.cell (i := 2) rfl
          have t3 := TT.out.cell (i := 3) rfl
          simp at t0 t1 t2 t3
          go_wp2_with fail
          have hBT : some w.heap.size ≠ some B := by simp; omega
          have tlt := TT.out.lt
          refine (drop_any b0 B S (o0, o1, o2) _ RR.out (by have := HW.out.size; omega) hl).mono ?_
          rintro e wP ⟨⟨v, rfl⟩, r1, r2⟩
          have R1 := Lib.hid r1
          have R2 := Lib.hid (grown_trans (grown_of_below HW.out (some B)) r2)
          have u0 := (World.cell?_of_block (w := wq) (a := ⟨w.heap.size, 0, none⟩) (r2.block _ tlt hBT)).trans t0
          clear r1 r2 t0 t1 t2 t3
          go_wp2_with fail
          go_ret
          exact ⟨ret1 hE.out.1.symm, by rw [hE.out.2]; exact R1.out, R2.out⟩
        ·
          have hE : Hid (doE S (3, o0, o1, o2) = 270 ∧ doS S (3, o0, o1, o2) = S) := by
            have : doE S (3, o0, o1, o2) = 270 := by simp [doE, hm]
            exact ⟨this, by simp [doS, this]⟩
          go_enter Try.func39, Try.ntmps39
          go_wp2_with fail
          have hb2 : Below w.heap.size w ((w.alloc (.cells #[.int .i64 3, .int .i64 o0, .int .i64 o1, .int .i64 o2] 32)).alloc (.cells #[.int .i64 0, .int .i64 0, .int .i64 0] 30)) := ((Below.refl _ _).alloc (Nat.le_refl _) _).alloc (by simp) _
          have T := (Blk.new w #[.int .i64 3, .int .i64 o0, .int .i64 o1, .int .i64 o2] 32).alloc (.cells #[.int .i64 0, .int .i64 0, .int .i64 0] 30)
          generalize hWW : (w.alloc (.cells #[.int .i64 3, .int .i64 o0, .int .i64 o1, .int .i64 o2] 32)).alloc (.cells #[.int .i64 0, .int .i64 0, .int .i64 0] 30) = wr at hb2 T ⊢
          clear hWW
          have t0 := T.cell (i := 0) rfl
          have t1 := T.cell (i := 1) rfl
          have t2 := T.cell (i := 2) rfl
          have t3 := T.cell (i := 3) rfl
          simp at t0 t1 t2 t3
          have TT := Lib.hid T
          have RR := Lib.hid (H.out.below hb2)
          have HW := Lib.hid hb2
          have k0 := fun d os => cell_regrown t0 d os
          have k1 := fun d os => cell_regrown t1 d os
          have k2 := fun d os => cell_regrown t2 d os
          have k3 := fun d os => cell_regrown t3 d os
          clear T hb2
          have hm1 : decide ((o0, o1, o2) ∈ S) = false := by simpa using hm
          have hcall := fun (W : World) (h : Rh W b0 B S) => rhas_any b0 B S (o0, o1, o2) W h (by unfold maxLen; omega)
          rw [hm1] at hcall
          refine wp_region_quiet_below (by kernel_rfl) (by kernel_rfl) ?_
          repeat (quiet_step (first | (go_at_call 41; exact Calls.regrown_of (hcall _ (RR.out.below (below_regrown wr _ _))))))
          refine wpQuiet_nil ?_
          intro _ hw'
          obtain ⟨⟨dq, osq⟩, hw''⟩ := hw'
          subst hw''
          have hbq : Below wr.heap.size wr (Go.Sort.grow (redrawn wr dq) osq) := below_regrown wr dq osq
          dsimp only
          generalize Go.Sort.grow (redrawn wr dq) osq = wq at hbq ⊢
          clear k0 k1 k2 k3 hcall hm1
          replace TT := Lib.hid (TT.out.below hbq)
          replace RR := Lib.hid (RR.out.below hbq)
          replace HW := Lib.hid (on2 HW.out hbq)
          clear hbq t0 t1 t2 t3
          have t0 := TT.out.cell (i := 0) rfl
          have t1 := TT.out.cell (i := 1) rfl
          have t2 := TT.out.cell (i := 2) rfl
          have t3 := TT.out.cell (i := 3) rfl
          simp at t0 t1 t2 t3
          go_wp2_with fail
          go_ret
          exact ⟨ret1 hE.out.1.symm, by rw [hE.out.2]; exact RR.out, grown_of_below HW.out _⟩
      · by_cases hm : (o0, o1, o2) ∈ S
        ·
          have hE : Hid (doE S (4, o0, o1, o2) = 270 ∧ doS S (4, o0, o1, o2) = S) := by
            have : doE S (4, o0, o1, o2) = 270 := by simp [doE, hm]
            exact ⟨this, by simp [doS, this]⟩
          go_enter Try.func39, Try.ntmps39
          go_wp2_with fail
          have hb2 : Below w.heap.size w ((w.alloc (.cells #[.int .i64 4, .int .i64 o0, .int .i64 o1, .int .i64 o2] 32)).alloc (.cells #[.int .i64 0, .int .i64 0, .int .i64 0] 30)) := ((Below.refl _ _).alloc (Nat.le_refl _) _).alloc (by simp) _
          have T := (Blk.new w #[.int .i64 4, .int .i64 o0, .int .i64 o1, .int .i64 o2] 32).alloc (.cells #[.int .i64 0, .int .i64 0, .int .i64 0] 30)
          generalize hWW : (w.alloc (.cells #[.int .i64 4, .int .i64 o0, .int .i64 o1, .int .i64 o2] 32)).alloc (.cells #[.int .i64 0, .int .i64 0, .int .i64 0] 30) = wr at hb2 T ⊢
          clear hWW
          have t0 := T.cell (i := 0) rfl
          have t1 := T.cell (i := 1) rfl
          have t2 := T.cell (i := 2) rfl
          have t3 := T.cell (i := 3) rfl
          simp at t0 t1 t2 t3
          have TT := Lib.hid T
          have RR := Lib.hid (H.out.below hb2)
          have HW := Lib.hid hb2
          have k0 := fun d os => cell_regrown t0 d os
          have k1 := fun d os => cell_regrown t1 d os
          have k2 := fun d os => cell_regrown t2 d os
          have k3 := fun d os => cell_regrown t3 d os
          clear T hb2
          have hm1 : decide ((o0, o1, o2) ∈ S) = true := by simpa using hm
          have hcall := fun (W : World) (h : Rh W b0 B S) => rhas_any b0 B S (o0, o1, o2) W h (by unfold maxLen; omega)
          rw [hm1] at hcall
          refine wp_region_quiet_below (by kernel_rfl) (by kernel_rfl) ?_
          repeat (quiet_step (first | (go_at_call 41; exact Calls.regrown_of (hcall _ (RR.out.below (below_regrown wr _ _))))))
          refine wpQuiet_nil ?_
          intro _ hw'
          obtain ⟨⟨dq, osq⟩, hw''⟩ := hw'
          subst hw''
          have hbq : Below wr.heap.size wr (Go.Sort.grow (redrawn wr dq) osq) := below_regrown wr dq osq
          dsimp only
          generalize Go.Sort.grow (redrawn wr dq) osq = wq at hbq ⊢
          clear k0 k1 k2 k3 hcall hm1
          replace TT := Lib.hid (TT.out.below hbq)
          replace RR := Lib.hid (RR.out.below hbq)
          replace HW := Lib.hid (on2 HW.out hbq)
          clear hbq t0 t1 t2 t3
          have t0 := TT.out.cell (i := 0) rfl
          have t1 := TT.out.cell (i := 1) rfl
          have t2 := TT.out.cell (i := 2) rfl
          have t3 := TT.out.cell (i := 3) rfl
          simp at t0 t1 t2 t3
          go_wp2_with fail
          go_ret
          exact ⟨ret1 hE.out.1.symm, by rw [hE.out.2]; exact RR.out, grown_of_below HW.out _⟩
        ·
          have hE : Hid (doE S (4, o0, o1, o2) = 0 ∧ doS S (4, o0, o1, o2) = S) := by
            have : doE S (4, o0, o1, o2) = 0 := by simp [doE, hm]
            exact ⟨this, by simp [doS, this]⟩
          go_enter Try.func39, Try.ntmps39
          go_wp2_with fail
          have hb2 : Below w.heap.size w ((w.alloc (.cells #[.int .i64 4, .int .i64 o0, .int .i64 o1, .int .i64 o2] 32)).alloc (.cells #[.int .i64 0, .int .i64 0, .int .i64 0] 30)) := ((Below.refl _ _).alloc (Nat.le_refl _) _).alloc (by simp) _
          have T := (Blk.new w #[.int .i64 4, .int .i64 o0, .int .i64 o1, .int .i64 o2] 32).alloc (.cells #[.int .i64 0, .int .i64 0, .int .i64 0] 30)
          generalize hWW : (w.alloc (.cells #[.int .i64 4, .int .i64 o0, .int .i64 o1, .int .i64 o2] 32)).alloc (.cells #[.int .i64 0, .int .i64 0, .int .i64 0] 30) = wr at hb2 T ⊢
          clear hWW
          have t0 := T.cell (i := 0) rfl
          have t1 := T.cell (i := 1) rfl
          have t2 := T.cell (i := 2) rfl
          have t3 := T.cell (i := 3) rfl
          simp at t0 t1 t2 t3
          have TT := Lib.hid T
          have RR := Lib.hid (H.out.below hb2)
          have HW := Lib.hid hb2
          have k0 := fun d os => cell_regrown t0 d os
          have k1 := fun d os => cell_regrown t1 d os
          have k2 := fun d os => cell_regrown t2 d os
          have k3 := fun d os => cell_regrown t3 d os
          clear T hb2
          have hm1 : decide ((o0, o1, o2) ∈ S) = false := by simpa using hm
          have hcall := fun (W : World) (h : Rh W b0 B S) => rhas_any b0 B S (o0, o1, o2) W h (by unfold maxLen; omega)
          rw [hm1] at hcall
          refine wp_region_quiet_below (by kernel_rfl) (by kernel_rfl) ?_
          repeat (quiet_step (first | (go_at_call 41; exact Calls.regrown_of (hcall _ (RR.out.below (below_regrown wr _ _))))))
          refine wpQuiet_nil ?_
          intro _ hw'
          obtain ⟨⟨dq, osq⟩, hw''⟩ := hw'
          subst hw''
          have hbq : Below wr.heap.size wr (Go.Sort.grow (redrawn wr dq) osq) := below_regrown wr dq osq
          dsimp only
          generalize Go.Sort.grow (redrawn wr dq) osq = wq at hbq ⊢
          clear k0 k1 k2 k3 hcall hm1
          replace TT := Lib.hid (TT.out.below hbq)
          replace RR := Lib.hid (RR.out.below hbq)
          replace HW := Lib.hid (on2 HW.out hbq)
          clear hbq t0 t1 t2 t3
          have t0 := TT.out.cell (i := 0) rfl
          have t1 := TT.out.cell (i := 1) rfl
          have t2 := TT.out.cell (i := 2) rfl
          have t3 := TT.out.cell (i := 3) rfl
          simp at t0 t1 t2 t3
          go_wp2_with fail
          go_ret
          exact ⟨ret1 hE.out.1.symm, by rw [hE.out.2]; exact RR.out, grown_of_below HW.out _⟩
end Go.Proofs.Ythmkmjoeceghiaa
