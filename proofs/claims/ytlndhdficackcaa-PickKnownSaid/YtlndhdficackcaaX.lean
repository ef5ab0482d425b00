/- PickKnown: the walk. -/
import Derived.Test.YtlndhdficackcaaV
namespace Go.Proofs.Ytlndhdficackcaa
open Go.RowKit Go.Shelf

set_option maxRecDepth 100000 in
set_option maxHeartbeats 1000000 in
theorem pickknown_any (w : World) : Calls Try.prog 8 #[] w fun e w' => e = .returned (.bool true) ∧ Below w.heap.size w w' := by
  have hmk := show ∀ w : World, (Instr.makeSlice 22 (.int .i64 50) (.int .i64 50)).run Try.prog w = .ok (.slice (some ⟨w.heap.size, 0, none⟩) 50 50) (w.alloc (.cells (madeCells #[.bool false] 50) 4)) from run_make_row' (P := Try.prog) 22 4 (.bool false) 1 Try.underlying22 info4 rfl .i64 .i64 50 (by omega) (by omega)
  go_enter Try.func8, Try.ntmps8
  go_wp2_with fail
  clear hmk
  obtain ⟨W, hW⟩ : ∃ W, W = W8 w := ⟨_, rfl⟩
  have hF := lists_at w
  have hG := ends_at w
  have hB0 := W8_below w
  rw [← hW] at hF hG hB0
  have F := Lib.hid hF
  have G := Lib.hid hG
  have B0 := Lib.hid hB0
  unfold W8 at hW
  rw [← hW]
  clear hW hF hG hB0
  go_loopw [3] (fun i wr => ∃ k : Nat, k ≤ 7 ∧ i = .int .i64 k ∧ Below W.heap.size W wr) (fun i _ => 7 - (intOf i).toNat)
  case atStart => exact ⟨0, by omega, rfl, Below.refl _ _⟩
  case round =>
    obtain ⟨k, hk, rfl, hb⟩ := hrel
    have HB := Lib.hid hb
    clear hb
    by_cases hlt : k < 7
    · obtain ⟨a, len, cap, ys, hc0, hA, hl⟩ := F.out k hlt
      have A := Lib.hid hA
      have C0 := Lib.hid hc0
      clear hA hc0
      go_wp2_with fail
      rw [show decide ((k : Int) < 7) = true from by simp; omega]
      go_loopw [4] (fun i wr => ∃ k : Nat, k ≤ 9 ∧ i = .int .i64 k ∧ Below W.heap.size W wr) (fun i _ => 9 - (intOf i).toNat)
      case atStart => exact ⟨0, by omega, rfl, HB.out⟩
      case round =>
        clear HB
        obtain ⟨l, hl9, rfl, hb⟩ := hrel
        have HB := Lib.hid hb
        clear hb
        by_cases hlt2 : l < 9
        · obtain ⟨e, he, hc1⟩ := G.out l hlt2
          have S := Lib.hid (A.out.below HB.out)
          have c0 := below_cell HB.out (Nat.le_refl _) C0.out
          have c1 := below_cell HB.out (Nat.le_refl _) hc1
          have k0 := fun d os => cell_regrown c0 d os
          have k1 := fun d os => cell_regrown c1 d os
          clear c0 c1 hc1
          go_wp2_with fail
          refine wp_region_quiet_below (by kernel_rfl) (by kernel_rfl) ?_
          repeat (quiet_step (first | (go_at_call 3; exact Calls.regrown_of (picktells_arg (S.out.below (below_regrown wr _ _)) (by omega) he)) | (go_at_call 5; exact Calls.regrown_of (pickall_arg (S.out.below (below_regrown wr _ _)) he))))
          refine wpQuiet_nil ?_
          intro _ hw'
          obtain ⟨⟨dq, osq⟩, hw''⟩ := hw'
          subst hw''
          clear k0 k1
          go_wp2_with fail
          go_roundw
          case rel => exact ⟨l + 1, by omega, by go_num, HB.out.trans ((below_regrown wr dq osq).mono HB.out.size)⟩
          case measure => simp [intOf]; omega
        · obtain rfl : l = 9 := by omega
          go_wp2_with fail
          go_roundw
          case rel => exact ⟨k + 1, by omega, by go_num, HB.out⟩
          case measure => simp [intOf]; omega
    · obtain rfl : k = 7 := by omega
      go_wp2_with fail
      obtain ⟨W2, hW⟩ : ∃ W2, W2 = W7 wr := ⟨_, rfl⟩
      have hF := picks_at wr
      have hB1 := HB.out.trans ((W7_below wr).mono HB.out.size)
      rw [← hW] at hF hB1
      clear F
      have F := Lib.hid hF
      have B1 := Lib.hid hB1
      have hsz := Lib.hid hB1.size
      unfold W7 at hW
      rw [← hW]
      clear hW hF hB1 HB
      generalize wr.heap.size + 1 + 1 + 1 + 1 + 1 + 1 = g at *
      rw [show ((7 : Nat) : Int) = 7 from rfl]
      go_loopw [6] (fun i wr => ∃ k : Nat, k ≤ 7 ∧ i = .int .i64 k ∧ Below W2.heap.size W2 wr) (fun i _ => 7 - (intOf i).toNat)
      case atStart => exact ⟨0, by omega, rfl, Below.refl _ _⟩
      case round =>
        obtain ⟨k, hk, rfl, hb⟩ := hrel
        have HB := Lib.hid hb
        clear hb
        by_cases hlt : k < 7
        · obtain ⟨a, len, cap, ys, hc0, hA⟩ := F.out k hlt
          have A := Lib.hid hA
          have C0 := Lib.hid hc0
          clear hA hc0
          go_wp2_with fail
          rw [show decide ((k : Int) < 7) = true from by simp; omega]
          go_loopw [7] (fun i wr => ∃ k : Nat, k ≤ 9 ∧ i = .int .i64 k ∧ Below W2.heap.size W2 wr) (fun i _ => 9 - (intOf i).toNat)
          case atStart => exact ⟨0, by omega, rfl, HB.out⟩
          case round =>
            clear HB
            obtain ⟨l, hl9, rfl, hb⟩ := hrel
            have HB := Lib.hid hb
            clear hb
            by_cases hlt2 : l < 9
            · obtain ⟨e, he, hc1⟩ := G.out l hlt2
              have C1 := Lib.hid hc1
              clear hc1
              go_wp2_with fail
              rw [show decide ((l : Int) < 9) = true from by simp; omega]
              go_loopw [8] (fun i wr => ∃ k : Nat, k ≤ 9 ∧ i = .int .i64 k ∧ Below W2.heap.size W2 wr) (fun i _ => 9 - (intOf i).toNat)
              case atStart => exact ⟨0, by omega, rfl, HB.out⟩
              case round =>
                clear HB
                obtain ⟨m, hm9, rfl, hb⟩ := hrel
                have HB := Lib.hid hb
                clear hb
                by_cases hlt3 : m < 9
                · obtain ⟨e2, he2, hc2⟩ := G.out m hlt3
                  have S := Lib.hid (A.out.below HB.out)
                  have BB := B1.out.trans (HB.out.mono hsz.out)
                  have c0 := below_cell HB.out (Nat.le_refl _) C0.out
                  have c1 := below_cell BB (Nat.le_refl _) C1.out
                  have c2 := below_cell BB (Nat.le_refl _) hc2
                  have k0 := fun d os => cell_regrown c0 d os
                  have k1 := fun d os => cell_regrown c1 d os
                  have k2 := fun d os => cell_regrown c2 d os
                  clear c0 c1 c2 hc2 BB
                  go_wp2_with fail
                  refine wp_region_quiet_below (by kernel_rfl) (by kernel_rfl) ?_
                  repeat (quiet_step (first | (go_at_call 4; exact Calls.regrown_of (pickgaps_arg (S.out.below (below_regrown wr _ _))))))
                  refine wpQuiet_nil ?_
                  intro _ hw'
                  obtain ⟨⟨dq, osq⟩, hw''⟩ := hw'
                  subst hw''
                  clear k0 k1 k2
                  go_wp2_with fail
                  go_roundw
                  case rel => exact ⟨m + 1, by omega, by go_num, HB.out.trans ((below_regrown wr dq osq).mono HB.out.size)⟩
                  case measure => simp [intOf]; omega
                · obtain rfl : m = 9 := by omega
                  go_wp2_with fail
                  go_roundw
                  case rel => exact ⟨l + 1, by omega, by go_num, HB.out⟩
                  case measure => simp [intOf]; omega
            · obtain rfl : l = 9 := by omega
              go_wp2_with fail
              go_roundw
              case rel => exact ⟨k + 1, by omega, by go_num, HB.out⟩
              case measure => simp [intOf]; omega
        · obtain rfl : k = 7 := by omega
          obtain ⟨a, len, cap, ys, hc0, hA⟩ := F.out 3 (by omega)
          have A := Lib.hid hA
          have C0 := Lib.hid hc0
          have BW := Lib.hid (B0.out.trans ((B1.out.trans (HB.out.mono hsz.out)).mono B0.out.size))
          clear hA hc0
          go_wp2_with fail
          refine (works_any _).mono ?_
          rintro e w1 ⟨rfl, hb⟩; replace HB := Lib.hid (on HB.out hb); replace BW := Lib.hid (on BW.out hb); clear hb
          have c0 := below_cell HB.out (Nat.le_refl _) C0.out
          go_wp2_with fail
          refine (pickgaps_arg (A.out.below HB.out)).mono ?_
          rintro e w2 ⟨rfl, hb⟩; replace HB := Lib.hid (on HB.out hb); replace BW := Lib.hid (on BW.out hb); clear hb c0
          have c0 := below_cell HB.out (Nat.le_refl _) C0.out
          go_wp2_with fail
          refine (pickgaps_arg (A.out.below HB.out)).mono ?_
          rintro e w3 ⟨rfl, hb⟩; replace HB := Lib.hid (on HB.out hb); replace BW := Lib.hid (on BW.out hb); clear hb c0
          have c0 := below_cell HB.out (Nat.le_refl _) C0.out
          go_wp2_with fail
          refine (pickgaps_arg (A.out.below HB.out)).mono ?_
          rintro e w4 ⟨rfl, hb⟩; replace BW := Lib.hid (on BW.out hb); clear hb c0
          go_wp2_with fail
          go_ret
          exact ⟨rfl, BW.out⟩
end Go.Proofs.Ytlndhdficackcaa
