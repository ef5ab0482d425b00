/- The walk over Do. -/
import Derived.Test.YthmkmjoeceghiaaC
import Derived.Laws.EntriesVeiled
namespace Go.Proofs.Ythmkmjoeceghiaa
open Go.RowKit

attribute [local go_sem ↓] Go.wp_at_zero Go.wp_at_succ
theorem Hp.same {w : World} {B M n : Nat} {S S' : List Ob} (h : Hp w B M n S) (e : ∀ x, x ∈ S ↔ x ∈ S') : Hp w B M n S' := by
  obtain ⟨D, hD, hh⟩ := h.map
  exact ⟨h.bB, ⟨D, hD, fun o ho => by rw [hh o ho, Bool.eq_iff_iff]; simp only [decide_eq_true_eq]; exact e o⟩, fun o ho => h.wf o ((e o).2 ho)⟩
set_option maxRecDepth 100000 in
set_option maxHeartbeats 1000000 in
theorem do_any (B M n : Nat) (S : List Ob) (d : Dd) (w : World) (h : Hp w B M n S) (hd : WfO d.2) (hn : n < maxLen) :
    Calls Try.prog 22 #[.pointer (some ⟨B, 0, none⟩), ddV d] w fun e w' => e = .returned (.int .i64 (doE S d)) ∧ Hp w' B M (n + 1) (doS S d) ∧ w.grownBy w' (some M) := by
  have hal : Below w.heap.size w (w.alloc (.cells #[.int .i64 d.1, .int .i64 d.2.1, .int .i64 d.2.2.1, .int .i64 d.2.2.2] 32)) := (by repeat (first | exact Below.refl _ _ | assumption | refine Below.setCell ?_ (by first | omega | (simp; done) | (simp; omega)) _ | refine Below.drew ?_ | refine Below.alloc ?_ (by first | omega | (simp; done) | (simp; omega)) _ | refine Below.trans ?_ (Below.mono (by assumption) (by first | omega | (simp; done) | (simp; omega)))))
  have H := Lib.hid (h.below hal)
  have T := Blk.new w #[.int .i64 d.1, .int .i64 d.2.1, .int .i64 d.2.2.1, .int .i64 d.2.2.2] 32
  have HW := Lib.hid hal
  have HO := Lib.hid hd
  have hlt := h.lt
  clear h hal hd
  have hT0 := T.cell (i := 0) rfl
  have hT1 := T.cell (i := 1) rfl
  have hT2 := T.cell (i := 2) rfl
  have hT3 := T.cell (i := 3) rfl
  simp at hT0 hT1 hT2 hT3
  obtain ⟨k, o0, o1, o2⟩ := d
  dsimp only at H HW HO T hT0 hT1 hT2 hT3 ⊢
  by_cases h1 : k < 1
  · have hE : Hid (doE S (k, o0, o1, o2) = 2 ∧ doS S (k, o0, o1, o2) = S) := by
      have : doE S (k, o0, o1, o2) = 2 := by simp [doE, h1]
      exact ⟨this, by simp [doS, this]⟩
    go_enter Try.func22, Try.ntmps22
    go_wp2_with fail
    refine (none_any B M n S _ H.out).mono ?_
    rintro e w1 ⟨rfl, rfl⟩
    go_wp2_with fail
    go_ret
    exact ⟨ret1 hE.out.1.symm, by rw [hE.out.2]; exact H.out.mono (Nat.le_succ _), grown_of_below HW.out _⟩
  · by_cases h4 : 4 < k
    · have hE : Hid (doE S (k, o0, o1, o2) = 2 ∧ doS S (k, o0, o1, o2) = S) := by
        have : doE S (k, o0, o1, o2) = 2 := by simp [doE, h4]
        exact ⟨this, by simp [doS, this]⟩
      go_enter Try.func22, Try.ntmps22
      go_wp2_with fail
      refine (none_any B M n S _ H.out).mono ?_
      rintro e w1 ⟨rfl, rfl⟩
      go_wp2_with fail
      go_ret
      exact ⟨ret1 hE.out.1.symm, by rw [hE.out.2]; exact H.out.mono (Nat.le_succ _), grown_of_below HW.out _⟩
    · have hk : k = 1 ∨ k = 2 ∨ k = 3 ∨ k = 4 := by omega
      rcases hk with rfl | rfl | rfl | rfl
      ·
        go_enter Try.func22, Try.ntmps22
        go_wp2_with fail
        refine (none_any B M n S _ H.out).mono ?_
        rintro e w1 ⟨rfl, rfl⟩
        go_wp2_with fail
        have hb2 : Below (w.alloc (.cells #[.int .i64 1, .int .i64 o0, .int .i64 o1, .int .i64 o2] 32)).heap.size (w.alloc (.cells #[.int .i64 1, .int .i64 o0, .int .i64 o1, .int .i64 o2] 32)) ((w.alloc (.cells #[.int .i64 1, .int .i64 o0, .int .i64 o1, .int .i64 o2] 32)).alloc (.cells #[.nilFunc, .func (.func 45) #[.pointer (some ⟨B, 0, none⟩)] #[], .func (.func 46) #[.pointer (some ⟨B, 0, none⟩)] #[], .func (.func 47) #[.pointer (some ⟨B, 0, none⟩)] #[], .func (.func 48) #[.pointer (some ⟨B, 0, none⟩)] #[]] 64)) := (Below.refl _ _).alloc (Nat.le_refl _) _
        have TF := Blk.new (w.alloc (.cells #[.int .i64 1, .int .i64 o0, .int .i64 o1, .int .i64 o2] 32)) #[.nilFunc, .func (.func 45) #[.pointer (some ⟨B, 0, none⟩)] #[], .func (.func 46) #[.pointer (some ⟨B, 0, none⟩)] #[], .func (.func 47) #[.pointer (some ⟨B, 0, none⟩)] #[], .func (.func 48) #[.pointer (some ⟨B, 0, none⟩)] #[]] 64
        have hz : (w.alloc (.cells #[.int .i64 1, .int .i64 o0, .int .i64 o1, .int .i64 o2] 32)).heap.size = w.heap.size + 1 := by simp
        rw [hz] at TF
        replace H := Lib.hid (H.out.below hb2)
        replace T := T.below hb2
        replace HW := Lib.hid (on HW.out hb2)
        clear hz hb2 hT0 hT1 hT2 hT3
        generalize ((w.alloc (.cells #[.int .i64 1, .int .i64 o0, .int .i64 o1, .int .i64 o2] 32)).alloc (.cells #[.nilFunc, .func (.func 45) #[.pointer (some ⟨B, 0, none⟩)] #[], .func (.func 46) #[.pointer (some ⟨B, 0, none⟩)] #[], .func (.func 47) #[.pointer (some ⟨B, 0, none⟩)] #[], .func (.func 48) #[.pointer (some ⟨B, 0, none⟩)] #[]] 64)) = W at *
        have t0 := T.cell (i := 0) rfl
        have t1 := T.cell (i := 1) rfl
        have t2 := T.cell (i := 2) rfl
        have t3 := T.cell (i := 3) rfl
        have t4 := TF.cell (i := 1) rfl
        simp at t0 t1 t2 t3 t4
        have hMT : some w.heap.size ≠ some M := by simp; omega
        have hMF : some (w.heap.size + 1) ≠ some M := by simp; omega
        have tlt := T.lt
        have flt := TF.lt
        clear T TF
        have kA : W.drew.cell? ⟨w.heap.size, 0, none⟩ = some (.int .i64 1) ∧ W.drew.cell? ⟨w.heap.size, 1, none⟩ = some (.int .i64 o0) ∧ W.drew.cell? ⟨w.heap.size, 2, none⟩ = some (.int .i64 o1) ∧ W.drew.cell? ⟨w.heap.size, 3, none⟩ = some (.int .i64 o2) ∧ W.drew.cell? ⟨w.heap.size + 1, 1, none⟩ = some (.func (.func (44 + 1)) #[.pointer (some ⟨B, 0, none⟩)] #[]) := ⟨t0, t1, t2, t3, t4⟩
        have kG : ∀ wX : World, W.grownBy wX (some M) → wX.cell? ⟨w.heap.size, 0, none⟩ = some (.int .i64 1) ∧ wX.cell? ⟨w.heap.size, 1, none⟩ = some (.int .i64 o0) ∧ wX.cell? ⟨w.heap.size, 2, none⟩ = some (.int .i64 o1) ∧ wX.cell? ⟨w.heap.size, 3, none⟩ = some (.int .i64 o2) ∧ wX.cell? ⟨w.heap.size + 1, 1, none⟩ = some (.func (.func (44 + 1)) #[.pointer (some ⟨B, 0, none⟩)] #[]) := fun wX hg => by
          have e1 := hg.block w.heap.size tlt hMT
          have e2 := hg.block (w.heap.size + 1) flt hMF
          exact ⟨(World.cell?_of_block (w := W) (a := ⟨w.heap.size, 0, none⟩) e1).trans t0, (World.cell?_of_block (w := W) (a := ⟨w.heap.size, 1, none⟩) e1).trans t1, (World.cell?_of_block (w := W) (a := ⟨w.heap.size, 2, none⟩) e1).trans t2, (World.cell?_of_block (w := W) (a := ⟨w.heap.size, 3, none⟩) e1).trans t3, (World.cell?_of_block (w := W) (a := ⟨w.heap.size + 1, 1, none⟩) e2).trans t4⟩
        have KG := Lib.hid kG
        clear t0 t1 t2 t3 t4 kG
        go_region_held3 (fun w' => w'.cell? ⟨w.heap.size, 0, none⟩ = some (.int .i64 1) ∧ w'.cell? ⟨w.heap.size, 1, none⟩ = some (.int .i64 o0) ∧ w'.cell? ⟨w.heap.size, 2, none⟩ = some (.int .i64 o1) ∧ w'.cell? ⟨w.heap.size, 3, none⟩ = some (.int .i64 o2) ∧ w'.cell? ⟨w.heap.size + 1, 1, none⟩ = some (.func (.func (44 + 1)) #[.pointer (some ⟨B, 0, none⟩)] #[]))
          (first | exact kA | exact kX)
          (first | (go_at_call 45; refine (give_any B M n S (putL S (o0, o1, o2)) (o0, o1, o2) _ (by exact H.out.below (Below.refl _ _).drew) HO.out hn (mem_putL _ _)).mono ?_; rintro e wX ⟨rfl, hX, gX⟩; have gX' := grown_trans (grown_of_below (Below.refl _ W).drew (some M)) gX; have kX := KG.out wX gX'))
        have XX := Lib.hid hX
        have GG := Lib.hid (grown_trans (grown_of_below HW.out (some M)) gX')
        clear kX gX gX' hX kA KG
        by_cases hm : (o0, o1, o2) ∈ S
        ·
          have hm1 : decide ((o0, o1, o2) ∈ S) = true := by simpa using hm
          rw [hm1]
          clear hm1
          go_wp2_with fail
          go_ret
          have e1 : doE S (1, o0, o1, o2) = 270 := by simp [doE, hm]
          refine ⟨ret1 e1.symm, ?_, GG.out⟩
          rw [show doS S (1, o0, o1, o2) = S by simp [doS, e1]]
          exact XX.out.same fun x => by rw [mem_putL]; exact ⟨fun h => h.elim (fun e => e ▸ hm) id, .inr⟩
        ·
          have hm1 : decide ((o0, o1, o2) ∈ S) = false := by simpa using hm
          rw [hm1]
          clear hm1
          go_wp2_with fail
          go_ret
          have e1 : doE S (1, o0, o1, o2) = 0 := by simp [doE, hm]
          refine ⟨ret1 e1.symm, ?_, GG.out⟩
          rw [show doS S (1, o0, o1, o2) = putL S (o0, o1, o2) by simp [doS, e1]]
          exact XX.out
      · by_cases h0 : (o0, o1, o2) = ((0, 0, 0) : Ob)
        · have hq := neq30 (x := (o0, o1, o2)) (y := (0, 0, 0)) false (by simpa using h0)
          have hE : Hid (doE S (2, o0, o1, o2) = 0 ∧ doS S (2, o0, o1, o2) = S) := by
            have : doE S (2, o0, o1, o2) = 0 := by simp [doE, h0]
            exact ⟨this, by simp [doS, this]⟩
          clear h0
          go_enter Try.func22, Try.ntmps22
          go_wp2_with fail
          refine (none_any B M n S _ H.out).mono ?_
          rintro e w1 ⟨rfl, rfl⟩
          go_wp2_with fail
          have hb2 : Below (w.alloc (.cells #[.int .i64 2, .int .i64 o0, .int .i64 o1, .int .i64 o2] 32)).heap.size (w.alloc (.cells #[.int .i64 2, .int .i64 o0, .int .i64 o1, .int .i64 o2] 32)) ((w.alloc (.cells #[.int .i64 2, .int .i64 o0, .int .i64 o1, .int .i64 o2] 32)).alloc (.cells #[.nilFunc, .func (.func 45) #[.pointer (some ⟨B, 0, none⟩)] #[], .func (.func 46) #[.pointer (some ⟨B, 0, none⟩)] #[], .func (.func 47) #[.pointer (some ⟨B, 0, none⟩)] #[], .func (.func 48) #[.pointer (some ⟨B, 0, none⟩)] #[]] 64)) := (Below.refl _ _).alloc (Nat.le_refl _) _
          have TF := Blk.new (w.alloc (.cells #[.int .i64 2, .int .i64 o0, .int .i64 o1, .int .i64 o2] 32)) #[.nilFunc, .func (.func 45) #[.pointer (some ⟨B, 0, none⟩)] #[], .func (.func 46) #[.pointer (some ⟨B, 0, none⟩)] #[], .func (.func 47) #[.pointer (some ⟨B, 0, none⟩)] #[], .func (.func 48) #[.pointer (some ⟨B, 0, none⟩)] #[]] 64
          have hz : (w.alloc (.cells #[.int .i64 2, .int .i64 o0, .int .i64 o1, .int .i64 o2] 32)).heap.size = w.heap.size + 1 := by simp
          rw [hz] at TF
          replace H := Lib.hid (H.out.below hb2)
          replace T := T.below hb2
          replace HW := Lib.hid (on HW.out hb2)
          clear hz hb2 hT0 hT1 hT2 hT3
          generalize ((w.alloc (.cells #[.int .i64 2, .int .i64 o0, .int .i64 o1, .int .i64 o2] 32)).alloc (.cells #[.nilFunc, .func (.func 45) #[.pointer (some ⟨B, 0, none⟩)] #[], .func (.func 46) #[.pointer (some ⟨B, 0, none⟩)] #[], .func (.func 47) #[.pointer (some ⟨B, 0, none⟩)] #[], .func (.func 48) #[.pointer (some ⟨B, 0, none⟩)] #[]] 64)) = W at *
          have t0 := T.cell (i := 0) rfl
          have t1 := T.cell (i := 1) rfl
          have t2 := T.cell (i := 2) rfl
          have t3 := T.cell (i := 3) rfl
          have t4 := TF.cell (i := 2) rfl
          simp at t0 t1 t2 t3 t4
          have hMT : some w.heap.size ≠ some M := by simp; omega
          have hMF : some (w.heap.size + 1) ≠ some M := by simp; omega
          have tlt := T.lt
          have flt := TF.lt
          clear T TF
          have kA : W.drew.cell? ⟨w.heap.size, 0, none⟩ = some (.int .i64 2) ∧ W.drew.cell? ⟨w.heap.size, 1, none⟩ = some (.int .i64 o0) ∧ W.drew.cell? ⟨w.heap.size, 2, none⟩ = some (.int .i64 o1) ∧ W.drew.cell? ⟨w.heap.size, 3, none⟩ = some (.int .i64 o2) ∧ W.drew.cell? ⟨w.heap.size + 1, 2, none⟩ = some (.func (.func (44 + 2)) #[.pointer (some ⟨B, 0, none⟩)] #[]) := ⟨t0, t1, t2, t3, t4⟩
          have kG : ∀ wX : World, W.grownBy wX (some M) → wX.cell? ⟨w.heap.size, 0, none⟩ = some (.int .i64 2) ∧ wX.cell? ⟨w.heap.size, 1, none⟩ = some (.int .i64 o0) ∧ wX.cell? ⟨w.heap.size, 2, none⟩ = some (.int .i64 o1) ∧ wX.cell? ⟨w.heap.size, 3, none⟩ = some (.int .i64 o2) ∧ wX.cell? ⟨w.heap.size + 1, 2, none⟩ = some (.func (.func (44 + 2)) #[.pointer (some ⟨B, 0, none⟩)] #[]) := fun wX hg => by
            have e1 := hg.block w.heap.size tlt hMT
            have e2 := hg.block (w.heap.size + 1) flt hMF
            exact ⟨(World.cell?_of_block (w := W) (a := ⟨w.heap.size, 0, none⟩) e1).trans t0, (World.cell?_of_block (w := W) (a := ⟨w.heap.size, 1, none⟩) e1).trans t1, (World.cell?_of_block (w := W) (a := ⟨w.heap.size, 2, none⟩) e1).trans t2, (World.cell?_of_block (w := W) (a := ⟨w.heap.size, 3, none⟩) e1).trans t3, (World.cell?_of_block (w := W) (a := ⟨w.heap.size + 1, 2, none⟩) e2).trans t4⟩
          have KG := Lib.hid kG
          clear t0 t1 t2 t3 t4 kG
          clear hq
          go_region_held3 (fun w' => w'.cell? ⟨w.heap.size, 0, none⟩ = some (.int .i64 2) ∧ w'.cell? ⟨w.heap.size, 1, none⟩ = some (.int .i64 o0) ∧ w'.cell? ⟨w.heap.size, 2, none⟩ = some (.int .i64 o1) ∧ w'.cell? ⟨w.heap.size, 3, none⟩ = some (.int .i64 o2) ∧ w'.cell? ⟨w.heap.size + 1, 2, none⟩ = some (.func (.func (44 + 2)) #[.pointer (some ⟨B, 0, none⟩)] #[]))
            (first | exact kA | exact kX)
            (first | (go_at_call 46; refine (nothing_any _ (o0, o1, o2) _).mono ?_; rintro e wX ⟨rfl, bX⟩; have bX' : Below W.heap.size W wX := on (Below.refl _ W).drew bX; have kX := KG.out wX (grown_of_below bX' _)))
          have XX := Lib.hid (H.out.below bX')
          have GG := Lib.hid (grown_of_below (on HW.out bX') (some M))
          clear kX bX bX' kA KG
          go_wp2_with fail
          go_ret
          exact ⟨ret1 hE.out.1.symm, by rw [hE.out.2]; exact XX.out.mono (Nat.le_succ _), GG.out⟩
        · have hq := neq30 (x := (o0, o1, o2)) (y := (0, 0, 0)) true (by simpa using h0)
          have hE : Hid (doE S (2, o0, o1, o2) = 2 ∧ doS S (2, o0, o1, o2) = S) := by
            have : doE S (2, o0, o1, o2) = 2 := by simp [doE, h0]
            exact ⟨this, by simp [doS, this]⟩
          clear h0
          go_enter Try.func22, Try.ntmps22
          go_wp2_with fail
          refine (none_any B M n S _ H.out).mono ?_
          rintro e w1 ⟨rfl, rfl⟩
          go_wp2_with fail
          go_ret
          exact ⟨ret1 hE.out.1.symm, by rw [hE.out.2]; exact H.out.mono (Nat.le_succ _), grown_of_below HW.out _⟩
      ·
        go_enter Try.func22, Try.ntmps22
        go_wp2_with fail
        refine (none_any B M n S _ H.out).mono ?_
        rintro e w1 ⟨rfl, rfl⟩
        go_wp2_with fail
        have hb2 : Below (w.alloc (.cells #[.int .i64 3, .int .i64 o0, .int .i64 o1, .int .i64 o2] 32)).heap.size (w.alloc (.cells #[.int .i64 3, .int .i64 o0, .int .i64 o1, .int .i64 o2] 32)) ((w.alloc (.cells #[.int .i64 3, .int .i64 o0, .int .i64 o1, .int .i64 o2] 32)).alloc (.cells #[.nilFunc, .func (.func 45) #[.pointer (some ⟨B, 0, none⟩)] #[], .func (.func 46) #[.pointer (some ⟨B, 0, none⟩)] #[], .func (.func 47) #[.pointer (some ⟨B, 0, none⟩)] #[], .func (.func 48) #[.pointer (some ⟨B, 0, none⟩)] #[]] 64)) := (Below.refl _ _).alloc (Nat.le_refl _) _
        have TF := Blk.new (w.alloc (.cells #[.int .i64 3, .int .i64 o0, .int .i64 o1, .int .i64 o2] 32)) #[.nilFunc, .func (.func 45) #[.pointer (some ⟨B, 0, none⟩)] #[], .func (.func 46) #[.pointer (some ⟨B, 0, none⟩)] #[], .func (.func 47) #[.pointer (some ⟨B, 0, none⟩)] #[], .func (.func 48) #[.pointer (some ⟨B, 0, none⟩)] #[]] 64
        have hz : (w.alloc (.cells #[.int .i64 3, .int .i64 o0, .int .i64 o1, .int .i64 o2] 32)).heap.size = w.heap.size + 1 := by simp
        rw [hz] at TF
        replace H := Lib.hid (H.out.below hb2)
        replace T := T.below hb2
        replace HW := Lib.hid (on HW.out hb2)
        clear hz hb2 hT0 hT1 hT2 hT3
        generalize ((w.alloc (.cells #[.int .i64 3, .int .i64 o0, .int .i64 o1, .int .i64 o2] 32)).alloc (.cells #[.nilFunc, .func (.func 45) #[.pointer (some ⟨B, 0, none⟩)] #[], .func (.func 46) #[.pointer (some ⟨B, 0, none⟩)] #[], .func (.func 47) #[.pointer (some ⟨B, 0, none⟩)] #[], .func (.func 48) #[.pointer (some ⟨B, 0, none⟩)] #[]] 64)) = W at *
        have t0 := T.cell (i := 0) rfl
        have t1 := T.cell (i := 1) rfl
        have t2 := T.cell (i := 2) rfl
        have t3 := T.cell (i := 3) rfl
        have t4 := TF.cell (i := 3) rfl
        simp at t0 t1 t2 t3 t4
        have hMT : some w.heap.size ≠ some M := by simp; omega
        have hMF : some (w.heap.size + 1) ≠ some M := by simp; omega
        have tlt := T.lt
        have flt := TF.lt
        clear T TF
        have kA : W.drew.cell? ⟨w.heap.size, 0, none⟩ = some (.int .i64 3) ∧ W.drew.cell? ⟨w.heap.size, 1, none⟩ = some (.int .i64 o0) ∧ W.drew.cell? ⟨w.heap.size, 2, none⟩ = some (.int .i64 o1) ∧ W.drew.cell? ⟨w.heap.size, 3, none⟩ = some (.int .i64 o2) ∧ W.drew.cell? ⟨w.heap.size + 1, 3, none⟩ = some (.func (.func (44 + 3)) #[.pointer (some ⟨B, 0, none⟩)] #[]) := ⟨t0, t1, t2, t3, t4⟩
        have kG : ∀ wX : World, W.grownBy wX (some M) → wX.cell? ⟨w.heap.size, 0, none⟩ = some (.int .i64 3) ∧ wX.cell? ⟨w.heap.size, 1, none⟩ = some (.int .i64 o0) ∧ wX.cell? ⟨w.heap.size, 2, none⟩ = some (.int .i64 o1) ∧ wX.cell? ⟨w.heap.size, 3, none⟩ = some (.int .i64 o2) ∧ wX.cell? ⟨w.heap.size + 1, 3, none⟩ = some (.func (.func (44 + 3)) #[.pointer (some ⟨B, 0, none⟩)] #[]) := fun wX hg => by
          have e1 := hg.block w.heap.size tlt hMT
          have e2 := hg.block (w.heap.size + 1) flt hMF
          exact ⟨(World.cell?_of_block (w := W) (a := ⟨w.heap.size, 0, none⟩) e1).trans t0, (World.cell?_of_block (w := W) (a := ⟨w.heap.size, 1, none⟩) e1).trans t1, (World.cell?_of_block (w := W) (a := ⟨w.heap.size, 2, none⟩) e1).trans t2, (World.cell?_of_block (w := W) (a := ⟨w.heap.size, 3, none⟩) e1).trans t3, (World.cell?_of_block (w := W) (a := ⟨w.heap.size + 1, 3, none⟩) e2).trans t4⟩
        have KG := Lib.hid kG
        clear t0 t1 t2 t3 t4 kG
        go_region_held3 (fun w' => w'.cell? ⟨w.heap.size, 0, none⟩ = some (.int .i64 3) ∧ w'.cell? ⟨w.heap.size, 1, none⟩ = some (.int .i64 o0) ∧ w'.cell? ⟨w.heap.size, 2, none⟩ = some (.int .i64 o1) ∧ w'.cell? ⟨w.heap.size, 3, none⟩ = some (.int .i64 o2) ∧ w'.cell? ⟨w.heap.size + 1, 3, none⟩ = some (.func (.func (44 + 3)) #[.pointer (some ⟨B, 0, none⟩)] #[]))
          (first | exact kA | exact kX)
          (first | (go_at_call 47; refine (take_any B M n S (dropL S (o0, o1, o2)) (o0, o1, o2) _ (by exact H.out.below (Below.refl _ _).drew) HO.out (mem_dropL _ _)).mono ?_; rintro e wX ⟨rfl, hX, gX⟩; have gX' := grown_trans (grown_of_below (Below.refl _ W).drew (some M)) gX; have kX := KG.out wX gX'))
        have XX := Lib.hid hX
        have GG := Lib.hid (grown_trans (grown_of_below HW.out (some M)) gX')
        clear kX gX gX' hX kA KG
        by_cases hm : (o0, o1, o2) ∈ S
        ·
          have hm1 : decide ((o0, o1, o2) ∈ S) = true := by simpa using hm
          rw [hm1]
          clear hm1
          go_wp2_with fail
          go_ret
          have e1 : doE S (3, o0, o1, o2) = 0 := by simp [doE, hm]
          refine ⟨ret1 e1.symm, ?_, GG.out⟩
          rw [show doS S (3, o0, o1, o2) = dropL S (o0, o1, o2) by simp [doS, e1]]
          exact XX.out.mono (Nat.le_succ _)
        ·
          have hm1 : decide ((o0, o1, o2) ∈ S) = false := by simpa using hm
          rw [hm1]
          clear hm1
          go_wp2_with fail
          go_ret
          have e1 : doE S (3, o0, o1, o2) = 270 := by simp [doE, hm]
          refine ⟨ret1 e1.symm, ?_, GG.out⟩
          rw [show doS S (3, o0, o1, o2) = S by simp [doS, e1]]
          exact (XX.out.mono (Nat.le_succ _)).same fun x => by rw [mem_dropL]; exact ⟨And.left, fun h => ⟨h, fun e => hm (e ▸ h)⟩⟩
      ·
        go_enter Try.func22, Try.ntmps22
        go_wp2_with fail
        refine (none_any B M n S _ H.out).mono ?_
        rintro e w1 ⟨rfl, rfl⟩
        go_wp2_with fail
        have hb2 : Below (w.alloc (.cells #[.int .i64 4, .int .i64 o0, .int .i64 o1, .int .i64 o2] 32)).heap.size (w.alloc (.cells #[.int .i64 4, .int .i64 o0, .int .i64 o1, .int .i64 o2] 32)) ((w.alloc (.cells #[.int .i64 4, .int .i64 o0, .int .i64 o1, .int .i64 o2] 32)).alloc (.cells #[.nilFunc, .func (.func 45) #[.pointer (some ⟨B, 0, none⟩)] #[], .func (.func 46) #[.pointer (some ⟨B, 0, none⟩)] #[], .func (.func 47) #[.pointer (some ⟨B, 0, none⟩)] #[], .func (.func 48) #[.pointer (some ⟨B, 0, none⟩)] #[]] 64)) := (Below.refl _ _).alloc (Nat.le_refl _) _
        have TF := Blk.new (w.alloc (.cells #[.int .i64 4, .int .i64 o0, .int .i64 o1, .int .i64 o2] 32)) #[.nilFunc, .func (.func 45) #[.pointer (some ⟨B, 0, none⟩)] #[], .func (.func 46) #[.pointer (some ⟨B, 0, none⟩)] #[], .func (.func 47) #[.pointer (some ⟨B, 0, none⟩)] #[], .func (.func 48) #[.pointer (some ⟨B, 0, none⟩)] #[]] 64
        have hz : (w.alloc (.cells #[.int .i64 4, .int .i64 o0, .int .i64 o1, .int .i64 o2] 32)).heap.size = w.heap.size + 1 := by simp
        rw [hz] at TF
        replace H := Lib.hid (H.out.below hb2)
        replace T := T.below hb2
        replace HW := Lib.hid (on HW.out hb2)
        clear hz hb2 hT0 hT1 hT2 hT3
        generalize ((w.alloc (.cells #[.int .i64 4, .int .i64 o0, .int .i64 o1, .int .i64 o2] 32)).alloc (.cells #[.nilFunc, .func (.func 45) #[.pointer (some ⟨B, 0, none⟩)] #[], .func (.func 46) #[.pointer (some ⟨B, 0, none⟩)] #[], .func (.func 47) #[.pointer (some ⟨B, 0, none⟩)] #[], .func (.func 48) #[.pointer (some ⟨B, 0, none⟩)] #[]] 64)) = W at *
        have t0 := T.cell (i := 0) rfl
        have t1 := T.cell (i := 1) rfl
        have t2 := T.cell (i := 2) rfl
        have t3 := T.cell (i := 3) rfl
        have t4 := TF.cell (i := 4) rfl
        simp at t0 t1 t2 t3 t4
        have hMT : some w.heap.size ≠ some M := by simp; omega
        have hMF : some (w.heap.size + 1) ≠ some M := by simp; omega
        have tlt := T.lt
        have flt := TF.lt
        clear T TF
        have kA : W.drew.cell? ⟨w.heap.size, 0, none⟩ = some (.int .i64 4) ∧ W.drew.cell? ⟨w.heap.size, 1, none⟩ = some (.int .i64 o0) ∧ W.drew.cell? ⟨w.heap.size, 2, none⟩ = some (.int .i64 o1) ∧ W.drew.cell? ⟨w.heap.size, 3, none⟩ = some (.int .i64 o2) ∧ W.drew.cell? ⟨w.heap.size + 1, 4, none⟩ = some (.func (.func (44 + 4)) #[.pointer (some ⟨B, 0, none⟩)] #[]) := ⟨t0, t1, t2, t3, t4⟩
        have kG : ∀ wX : World, W.grownBy wX (some M) → wX.cell? ⟨w.heap.size, 0, none⟩ = some (.int .i64 4) ∧ wX.cell? ⟨w.heap.size, 1, none⟩ = some (.int .i64 o0) ∧ wX.cell? ⟨w.heap.size, 2, none⟩ = some (.int .i64 o1) ∧ wX.cell? ⟨w.heap.size, 3, none⟩ = some (.int .i64 o2) ∧ wX.cell? ⟨w.heap.size + 1, 4, none⟩ = some (.func (.func (44 + 4)) #[.pointer (some ⟨B, 0, none⟩)] #[]) := fun wX hg => by
          have e1 := hg.block w.heap.size tlt hMT
          have e2 := hg.block (w.heap.size + 1) flt hMF
          exact ⟨(World.cell?_of_block (w := W) (a := ⟨w.heap.size, 0, none⟩) e1).trans t0, (World.cell?_of_block (w := W) (a := ⟨w.heap.size, 1, none⟩) e1).trans t1, (World.cell?_of_block (w := W) (a := ⟨w.heap.size, 2, none⟩) e1).trans t2, (World.cell?_of_block (w := W) (a := ⟨w.heap.size, 3, none⟩) e1).trans t3, (World.cell?_of_block (w := W) (a := ⟨w.heap.size + 1, 4, none⟩) e2).trans t4⟩
        have KG := Lib.hid kG
        clear t0 t1 t2 t3 t4 kG
        go_region_held3 (fun w' => w'.cell? ⟨w.heap.size, 0, none⟩ = some (.int .i64 4) ∧ w'.cell? ⟨w.heap.size, 1, none⟩ = some (.int .i64 o0) ∧ w'.cell? ⟨w.heap.size, 2, none⟩ = some (.int .i64 o1) ∧ w'.cell? ⟨w.heap.size, 3, none⟩ = some (.int .i64 o2) ∧ w'.cell? ⟨w.heap.size + 1, 4, none⟩ = some (.func (.func (44 + 4)) #[.pointer (some ⟨B, 0, none⟩)] #[]))
          (first | exact kA | exact kX)
          (first | (go_at_call 48; refine (bad_any B M n S (o0, o1, o2) _ (by exact H.out.below (Below.refl _ _).drew) HO.out).mono ?_; rintro e wX ⟨rfl, bX⟩; have bX' : Below W.heap.size W wX := on (Below.refl _ W).drew bX; have kX := KG.out wX (grown_of_below bX' _)))
        have XX := Lib.hid (H.out.below bX')
        have GG := Lib.hid (grown_of_below (on HW.out bX') (some M))
        clear kX bX bX' kA KG
        by_cases hm : (o0, o1, o2) ∈ S
        ·
          have hm1 : decide ((o0, o1, o2) ∈ S) = true := by simpa using hm
          rw [hm1]
          clear hm1
          go_wp2_with fail
          go_ret
          have e1 : doE S (4, o0, o1, o2) = 270 := by simp [doE, hm]
          refine ⟨ret1 e1.symm, ?_, GG.out⟩
          rw [show doS S (4, o0, o1, o2) = S by simp [doS, e1]]
          exact XX.out.mono (Nat.le_succ _)
        ·
          have hm1 : decide ((o0, o1, o2) ∈ S) = false := by simpa using hm
          rw [hm1]
          clear hm1
          go_wp2_with fail
          go_ret
          have e1 : doE S (4, o0, o1, o2) = 0 := by simp [doE, hm]
          refine ⟨ret1 e1.symm, ?_, GG.out⟩
          rw [show doS S (4, o0, o1, o2) = S by simp [doS, e1]]
          exact XX.out.mono (Nat.le_succ _)
end Go.Proofs.Ythmkmjoeceghiaa
