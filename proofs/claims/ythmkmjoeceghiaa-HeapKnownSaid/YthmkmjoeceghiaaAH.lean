/- HeapKnown. -/
import Derived.Test.YthmkmjoeceghiaaAG
import Derived.Test.YthmkmjoeceghiaaM
import Derived.StillTailTactics
namespace Go.Proofs.Ythmkmjoeceghiaa
open Go.RowKit

attribute [local go_sem ↓] Go.wp_at_zero Go.wp_at_succ
/-- a heap that is none -/
def NoneAt (w : World) (p : Value) : Prop := p = .pointer none ∨ ∃ B, p = .pointer (some ⟨B, 0, none⟩) ∧ Blk w B #[.map none] 44
theorem NoneAt.below {w w' : World} {p : Value} (h : NoneAt w p) (hb : Below w.heap.size w w') : NoneAt w' p := by
  rcases h with rfl | ⟨B, rfl, h⟩
  · exact .inl rfl
  · exact .inr ⟨B, rfl, h.below hb⟩
set_option maxHeartbeats 400000 in
theorem nn_any (p : Value) (w : World) (h : NoneAt w p) : Calls Try.prog 44 #[p] w fun e w' => e = .returned (.bool true) ∧ w = w' := by
  rcases h with rfl | ⟨B, rfl, h⟩
  · go_enter Try.func44, Try.ntmps44
    go_wp2_with fail
    go_ret
    exact ⟨rfl, rfl⟩
  · have c0 := h.cell (i := 0) rfl
    simp at c0
    have hm := fun (w : World) => run_eql_map_nil (P := Try.prog) w 42 30 69 none Try.underlying42
    clear h
    go_enter Try.func44, Try.ntmps44
    go_wp2_with fail
    go_ret
    exact ⟨rfl, rfl⟩
set_option maxHeartbeats 400000 in
theorem do_nn (p : Value) (d : Dd) (w : World) (h : NoneAt w p) : Calls Try.prog 22 #[p, ddV d] w fun e w' => e = .returned (.int .i64 1) ∧ Below w.heap.size w w' := by
  have hal : Below w.heap.size w (w.alloc (.cells #[.int .i64 d.1, .int .i64 d.2.1, .int .i64 d.2.2.1, .int .i64 d.2.2.2] 32)) := (by repeat (first | exact Below.refl _ _ | assumption | refine Below.setCell ?_ (by first | omega | (simp; done) | (simp; omega)) _ | refine Below.drew ?_ | refine Below.alloc ?_ (by first | omega | (simp; done) | (simp; omega)) _ | refine Below.trans ?_ (Below.mono (by assumption) (by first | omega | (simp; done) | (simp; omega)))))
  have hn := nn_any p _ (h.below hal)
  clear h
  go_enter Try.func22, Try.ntmps22
  go_wp2_with fail
  refine hn.mono ?_
  rintro e w1 ⟨rfl, rfl⟩
  clear hn
  go_wp2_with fail
  go_ret
  exact ⟨rfl, hal⟩
set_option maxHeartbeats 400000 in
theorem has_nn (p : Value) (o : Ob) (w : World) (h : NoneAt w p) : Calls Try.prog 24 #[p, obV o] w fun e w' => e = .returned (.bool false) ∧ Below w.heap.size w w' := by
  have hal : Below w.heap.size w (w.alloc (.cells #[.int .i64 o.1, .int .i64 o.2.1, .int .i64 o.2.2] 30)) := (by repeat (first | exact Below.refl _ _ | assumption | refine Below.setCell ?_ (by first | omega | (simp; done) | (simp; omega)) _ | refine Below.drew ?_ | refine Below.alloc ?_ (by first | omega | (simp; done) | (simp; omega)) _ | refine Below.trans ?_ (Below.mono (by assumption) (by first | omega | (simp; done) | (simp; omega)))))
  have hn := nn_any p _ (h.below hal)
  clear h
  go_enter Try.func24, Try.ntmps24
  go_wp2_with fail
  refine hn.mono ?_
  rintro e w1 ⟨rfl, rfl⟩
  clear hn
  go_wp2_with fail
  go_ret
  exact ⟨rfl, hal⟩
set_option maxHeartbeats 400000 in
theorem out_nn (p : Value) (w : World) (h : NoneAt w p) : Calls Try.prog 23 #[p] w fun e w' => e = .returned (.slice none 0 0) ∧ w = w' := by
  have hn := nn_any p _ h
  clear h
  go_enter Try.func23, Try.ntmps23
  go_wp2_with fail
  refine hn.mono ?_
  rintro e w1 ⟨rfl, rfl⟩
  clear hn
  go_wp2_with fail
  go_ret
  exact ⟨rfl, rfl⟩
set_option maxHeartbeats 400000 in
theorem many_nn (p : Value) (c : Int) (w : World) (h : NoneAt w p) : Calls Try.prog 25 #[p, .int .i64 c] w fun e w' => e = .returned (.int .i64 0) ∧ w = w' := by
  have hn := nn_any p _ h
  clear h
  go_enter Try.func25, Try.ntmps25
  go_wp2_with fail
  refine hn.mono ?_
  rintro e w1 ⟨rfl, rfl⟩
  clear hn
  go_wp2_with fail
  go_ret
  exact ⟨rfl, rfl⟩
/-- six deeds written out -/
theorem six_deeds {w : World} (l : List Dd) (hl : l.length = 6) (hc : #[Value.int .i64 0].toList = [.int .i64 0]) (cs : Array Value) (h : cs.toList = l.flatMap ddCells) : IsDeeds (w.alloc (.cells cs 32)) (some ⟨w.heap.size, 0, none⟩) l := isDeeds_lit h
set_option maxRecDepth 100000 in
set_option maxHeartbeats 4000000 in
theorem heapknown_any (w : World) : Calls Try.prog 6 #[] w fun e w' => e = .returned (.bool true) ∧ Below w.heap.size w w' := by
  go_enter Try.func6, Try.ntmps6
  go_wp2_with fail
  go_loopw [1, 2] (fun pv iv wr => ∃ k : Int, 0 ≤ k ∧ k ≤ 2 ∧ iv = .int .i64 k ∧ NoneAt wr pv ∧ Below w.heap.size w wr) (fun _ iv _ => (2 - intOf iv).toNat)
  case atStart => exact ⟨0, by omega, by omega, rfl, .inl rfl, Below.refl _ _⟩
  case round =>
    obtain ⟨k, hk0, hk, rfl, hN, hB⟩ := hrel
    have NN := Lib.hid hN
    have BB := Lib.hid hB
    clear hN hB
    by_cases hlt : k < 2
    · go_wp2_with fail
      refine (do_nn _ (0, 0, 0, 0) wr NN.out).mono ?_
      rintro e w1 ⟨rfl, hb⟩
      replace NN := Lib.hid (NN.out.below hb)
      replace BB := Lib.hid (on2 BB.out hb)
      clear hb
      go_wp2_with fail
      refine (has_nn _ (0, 0, 0) w1 NN.out).mono ?_
      rintro e w2 ⟨rfl, hb⟩
      replace NN := Lib.hid (NN.out.below hb)
      replace BB := Lib.hid (on2 BB.out hb)
      clear hb
      go_wp2_with fail
      refine (out_nn _ w2 NN.out).mono ?_
      rintro e w3 ⟨rfl, rfl⟩
      go_wp2_with fail
      refine (many_nn _ 0 w2 NN.out).mono ?_
      rintro e w3 ⟨rfl, rfl⟩
      have TB := Lib.hid (Blk.new w2 #[.map none] 44)
      have BN := Lib.hid (BB.out.alloc BB.out.size (.cells #[.map none] 44))
      go_wp2_with fail
      go_roundw
      case rel => exact ⟨k + 1, by omega, by omega, rfl, .inr ⟨_, rfl, TB.out⟩, BN.out⟩
      case measure => simp [intOf]; omega
    · obtain rfl : k = 2 := by omega
      have O1 := Blk.new wr #[.int .i64 0, .int .i64 0, .int .i64 0, .int .i64 1, .int .i64 0, .int .i64 0, .int .i64 0, .int .i64 1, .int .i64 0, .int .i64 0, .int .i64 0, .int .i64 1, .int .i64 (-1), .int .i64 4611686018427387904, .int .i64 (-4611686018427387904)] 30
      have B1 := Lib.hid (BB.out.alloc BB.out.size (.cells #[.int .i64 0, .int .i64 0, .int .i64 0, .int .i64 1, .int .i64 0, .int .i64 0, .int .i64 0, .int .i64 1, .int .i64 0, .int .i64 0, .int .i64 0, .int .i64 1, .int .i64 (-1), .int .i64 4611686018427387904, .int .i64 (-4611686018427387904)] 30))
      have G1 := Lib.hid O1
      clear O1
      go_wp2_with fail
      generalize wr.heap.size = g at G1 ⊢
      generalize wr.alloc (.cells #[.int .i64 0, .int .i64 0, .int .i64 0, .int .i64 1, .int .i64 0, .int .i64 0, .int .i64 0, .int .i64 1, .int .i64 0, .int .i64 0, .int .i64 0, .int .i64 1, .int .i64 (-1), .int .i64 4611686018427387904, .int .i64 (-4611686018427387904)] 30) = W at *
      go_loopw [4] (fun av wr => ∃ a : Int, -1 ≤ a ∧ a ≤ 6 ∧ av = .int .i64 a ∧ Below W.heap.size W wr) (fun av _ => (6 - intOf av).toNat)
      case atStart => exact ⟨-1, by omega, by omega, rfl, Below.refl _ _⟩
      case round =>
        obtain ⟨a, ha1, ha2, rfl, hA⟩ := hrel
        have BA := Lib.hid hA
        clear hA
        by_cases ha : a < 6
        · go_wp2_with fail
          obtain ⟨Wa, rfl⟩ : ∃ Wa : World, Wa = wr := ⟨_, rfl⟩
          go_loopw [5] (fun bv wr => ∃ b : Int, -1 ≤ b ∧ b ≤ 6 ∧ bv = .int .i64 b ∧ Below W.heap.size W wr) (fun bv _ => (6 - intOf bv).toNat)
          case atStart => exact ⟨-1, by omega, by omega, rfl, BA.out⟩
          case round =>
            obtain ⟨b, hb1, hb2, rfl, hBb⟩ := hrel
            have BBb := Lib.hid hBb
            clear hBb
            by_cases hb : b < 6
            · go_wp2_with fail
              obtain ⟨Wb, rfl⟩ : ∃ Wb : World, Wb = wr := ⟨_, rfl⟩
              go_loopw [6] (fun cv wr => ∃ c : Int, 0 ≤ c ∧ c ≤ 5 ∧ cv = .int .i64 c ∧ Below W.heap.size W wr) (fun cv _ => (5 - intOf cv).toNat)
              case atStart => exact ⟨0, by omega, by omega, rfl, BBb.out⟩
              case round =>
                obtain ⟨c, hc0, hc, rfl, hCc⟩ := hrel
                have BC := Lib.hid hCc
                clear hCc
                by_cases hcl : c < 5
                · have hc5 : c = 0 ∨ c = 1 ∨ c = 2 ∨ c = 3 ∨ c = 4 := by omega
                  clear hcl hc hc0
                  rcases hc5 with rfl | rfl | rfl | rfl | rfl
                  ·
                    have x := fun (i : Nat) (v : Value) (h : _) => below_cell BC.out (Nat.le_refl _) (G1.out.cell (i := i) (v := v) h)
                    have y0 := x 0 _ rfl
                    have y1 := x 1 _ rfl
                    have y2 := x 2 _ rfl
                    have y3 := x 3 _ rfl
                    have y4 := x 4 _ rfl
                    have y5 := x 5 _ rfl
                    have y6 := x 6 _ rfl
                    have y7 := x 7 _ rfl
                    have y8 := x 8 _ rfl
                    have y9 := x 9 _ rfl
                    have y10 := x 10 _ rfl
                    have y11 := x 11 _ rfl
                    have y12 := x 12 _ rfl
                    have y13 := x 13 _ rfl
                    have y14 := x 14 _ rfl
                    clear x
                    have r1 : (IntKind.i64.wrap 1).tmod 5 = 1 := by decide
                    have r2 : (IntKind.i64.wrap 2).tmod 5 = 2 := by decide
                    go_wp2_with fail
                    go_still_tail 37, (by kernel_rfl)
                    clear y0 y1 y2 y3 y4 y5 y6 y7 y8 y9 y10 y11 y12 y13 y14 r1 r2
                    change wpList _ _ _ _ _ wr.drew
                    have BD := Lib.hid (show Below W.heap.size W wr.drew from BC.out.drew)
                    generalize wr.drew = w2 at *
                    have hDL := isDeeds_lit (w := w2) (t := 32) (l := [(a, 0, 0, 0), (b, 0, 0, 0), (a, 0, 0, 0), (1, 1, 0, 0), (b, 0, 1, 0), (3, 0, 0, 0)]) (cs := (([(a, 0, 0, 0), (b, 0, 0, 0), (a, 0, 0, 0), (1, 1, 0, 0), (b, 0, 1, 0), (3, 0, 0, 0)] : List Dd).flatMap ddCells).toArray) rfl
                    have hWL : WfD [(a, 0, 0, 0), (b, 0, 0, 0), (a, 0, 0, 0), (1, 1, 0, 0), (b, 0, 1, 0), (3, 0, 0, 0)] := wfD_of (by kernel_rfl)
                    have BL := Lib.hid (BD.out.alloc BD.out.size (.cells (([(a, 0, 0, 0), (b, 0, 0, 0), (a, 0, 0, 0), (1, 1, 0, 0), (b, 0, 1, 0), (3, 0, 0, 0)] : List Dd).flatMap ddCells).toArray 32))
                    have P1 := Lib.hid (fun W h => heapplays_any [(a, 0, 0, 0), (b, 0, 0, 0), (a, 0, 0, 0), (1, 1, 0, 0), (b, 0, 1, 0), (3, 0, 0, 0)] (some ⟨w2.heap.size, 0, none⟩) 6 W (by simp) hWL h)
                    have P2 := Lib.hid (fun W h => heaplists_any [(a, 0, 0, 0), (b, 0, 0, 0), (a, 0, 0, 0), (1, 1, 0, 0), (b, 0, 1, 0), (3, 0, 0, 0)] (some ⟨w2.heap.size, 0, none⟩) 6 W (by simp) hWL h)
                    have P3 := Lib.hid (fun W h => turns_any [(a, 0, 0, 0), (b, 0, 0, 0), (a, 0, 0, 0), (1, 1, 0, 0), (b, 0, 1, 0), (3, 0, 0, 0)] (some ⟨w2.heap.size, 0, none⟩) 6 W (by simp) (by simp) (fun h => by cases h) hWL h)
                    have DL := Lib.hid hDL
                    clear hDL hWL
                    go_wp2_with fail
                    refine (P1.out _ DL.out).mono ?_
                    rintro e w4 ⟨rfl, hb4⟩
                    replace DL := Lib.hid (DL.out.below hb4)
                    replace BL := Lib.hid (on2 BL.out hb4)
                    clear hb4
                    go_wp2_with fail
                    refine (P2.out _ DL.out).mono ?_
                    rintro e w5 ⟨rfl, hb5⟩
                    replace DL := Lib.hid (DL.out.below hb5)
                    replace BL := Lib.hid (on2 BL.out hb5)
                    clear hb5
                    go_wp2_with fail
                    refine (P3.out _ DL.out).mono ?_
                    rintro e w6 ⟨rfl, hb6⟩
                    replace BL := Lib.hid (on2 BL.out hb6)
                    clear hb6
                    go_wp2_with fail
                    go_roundw
                    case rel => exact ⟨1, by omega, by omega, rfl, BL.out⟩
                    case measure => simp [intOf]
                  ·
                    have x := fun (i : Nat) (v : Value) (h : _) => below_cell BC.out (Nat.le_refl _) (G1.out.cell (i := i) (v := v) h)
                    have y0 := x 0 _ rfl
                    have y1 := x 1 _ rfl
                    have y2 := x 2 _ rfl
                    have y3 := x 3 _ rfl
                    have y4 := x 4 _ rfl
                    have y5 := x 5 _ rfl
                    have y6 := x 6 _ rfl
                    have y7 := x 7 _ rfl
                    have y8 := x 8 _ rfl
                    have y9 := x 9 _ rfl
                    have y10 := x 10 _ rfl
                    have y11 := x 11 _ rfl
                    have y12 := x 12 _ rfl
                    have y13 := x 13 _ rfl
                    have y14 := x 14 _ rfl
                    clear x
                    have r1 : (IntKind.i64.wrap 2).tmod 5 = 2 := by decide
                    have r2 : (IntKind.i64.wrap 3).tmod 5 = 3 := by decide
                    go_wp2_with fail
                    go_still_tail 37, (by kernel_rfl)
                    clear y0 y1 y2 y3 y4 y5 y6 y7 y8 y9 y10 y11 y12 y13 y14 r1 r2
                    change wpList _ _ _ _ _ wr.drew
                    have BD := Lib.hid (show Below W.heap.size W wr.drew from BC.out.drew)
                    generalize wr.drew = w2 at *
                    have hDL := isDeeds_lit (w := w2) (t := 32) (l := [(a, 1, 0, 0), (b, 1, 0, 0), (a, 0, 0, 0), (1, 0, 1, 0), (b, 0, 0, 1), (3, 1, 0, 0)]) (cs := (([(a, 1, 0, 0), (b, 1, 0, 0), (a, 0, 0, 0), (1, 0, 1, 0), (b, 0, 0, 1), (3, 1, 0, 0)] : List Dd).flatMap ddCells).toArray) rfl
                    have hWL : WfD [(a, 1, 0, 0), (b, 1, 0, 0), (a, 0, 0, 0), (1, 0, 1, 0), (b, 0, 0, 1), (3, 1, 0, 0)] := wfD_of (by kernel_rfl)
                    have BL := Lib.hid (BD.out.alloc BD.out.size (.cells (([(a, 1, 0, 0), (b, 1, 0, 0), (a, 0, 0, 0), (1, 0, 1, 0), (b, 0, 0, 1), (3, 1, 0, 0)] : List Dd).flatMap ddCells).toArray 32))
                    have P1 := Lib.hid (fun W h => heapplays_any [(a, 1, 0, 0), (b, 1, 0, 0), (a, 0, 0, 0), (1, 0, 1, 0), (b, 0, 0, 1), (3, 1, 0, 0)] (some ⟨w2.heap.size, 0, none⟩) 6 W (by simp) hWL h)
                    have P2 := Lib.hid (fun W h => heaplists_any [(a, 1, 0, 0), (b, 1, 0, 0), (a, 0, 0, 0), (1, 0, 1, 0), (b, 0, 0, 1), (3, 1, 0, 0)] (some ⟨w2.heap.size, 0, none⟩) 6 W (by simp) hWL h)
                    have P3 := Lib.hid (fun W h => turns_any [(a, 1, 0, 0), (b, 1, 0, 0), (a, 0, 0, 0), (1, 0, 1, 0), (b, 0, 0, 1), (3, 1, 0, 0)] (some ⟨w2.heap.size, 0, none⟩) 6 W (by simp) (by simp) (fun h => by cases h) hWL h)
                    have DL := Lib.hid hDL
                    clear hDL hWL
                    go_wp2_with fail
                    refine (P1.out _ DL.out).mono ?_
                    rintro e w4 ⟨rfl, hb4⟩
                    replace DL := Lib.hid (DL.out.below hb4)
                    replace BL := Lib.hid (on2 BL.out hb4)
                    clear hb4
                    go_wp2_with fail
                    refine (P2.out _ DL.out).mono ?_
                    rintro e w5 ⟨rfl, hb5⟩
                    replace DL := Lib.hid (DL.out.below hb5)
                    replace BL := Lib.hid (on2 BL.out hb5)
                    clear hb5
                    go_wp2_with fail
                    refine (P3.out _ DL.out).mono ?_
                    rintro e w6 ⟨rfl, hb6⟩
                    replace BL := Lib.hid (on2 BL.out hb6)
                    clear hb6
                    go_wp2_with fail
                    go_roundw
                    case rel => exact ⟨2, by omega, by omega, rfl, BL.out⟩
                    case measure => simp [intOf]
                  ·
                    have x := fun (i : Nat) (v : Value) (h : _) => below_cell BC.out (Nat.le_refl _) (G1.out.cell (i := i) (v := v) h)
                    have y0 := x 0 _ rfl
                    have y1 := x 1 _ rfl
                    have y2 := x 2 _ rfl
                    have y3 := x 3 _ rfl
                    have y4 := x 4 _ rfl
                    have y5 := x 5 _ rfl
                    have y6 := x 6 _ rfl
                    have y7 := x 7 _ rfl
                    have y8 := x 8 _ rfl
                    have y9 := x 9 _ rfl
                    have y10 := x 10 _ rfl
                    have y11 := x 11 _ rfl
                    have y12 := x 12 _ rfl
                    have y13 := x 13 _ rfl
                    have y14 := x 14 _ rfl
                    clear x
                    have r1 : (IntKind.i64.wrap 3).tmod 5 = 3 := by decide
                    have r2 : (IntKind.i64.wrap 4).tmod 5 = 4 := by decide
                    go_wp2_with fail
                    go_still_tail 37, (by kernel_rfl)
                    clear y0 y1 y2 y3 y4 y5 y6 y7 y8 y9 y10 y11 y12 y13 y14 r1 r2
                    change wpList _ _ _ _ _ wr.drew
                    have BD := Lib.hid (show Below W.heap.size W wr.drew from BC.out.drew)
                    generalize wr.drew = w2 at *
                    have hDL := isDeeds_lit (w := w2) (t := 32) (l := [(a, 0, 1, 0), (b, 0, 1, 0), (a, 0, 0, 0), (1, 0, 0, 1), (b, -1, 4611686018427387904, -4611686018427387904), (3, 0, 1, 0)]) (cs := (([(a, 0, 1, 0), (b, 0, 1, 0), (a, 0, 0, 0), (1, 0, 0, 1), (b, -1, 4611686018427387904, -4611686018427387904), (3, 0, 1, 0)] : List Dd).flatMap ddCells).toArray) rfl
                    have hWL : WfD [(a, 0, 1, 0), (b, 0, 1, 0), (a, 0, 0, 0), (1, 0, 0, 1), (b, -1, 4611686018427387904, -4611686018427387904), (3, 0, 1, 0)] := wfD_of (by kernel_rfl)
                    have BL := Lib.hid (BD.out.alloc BD.out.size (.cells (([(a, 0, 1, 0), (b, 0, 1, 0), (a, 0, 0, 0), (1, 0, 0, 1), (b, -1, 4611686018427387904, -4611686018427387904), (3, 0, 1, 0)] : List Dd).flatMap ddCells).toArray 32))
                    have P1 := Lib.hid (fun W h => heapplays_any [(a, 0, 1, 0), (b, 0, 1, 0), (a, 0, 0, 0), (1, 0, 0, 1), (b, -1, 4611686018427387904, -4611686018427387904), (3, 0, 1, 0)] (some ⟨w2.heap.size, 0, none⟩) 6 W (by simp) hWL h)
                    have P2 := Lib.hid (fun W h => heaplists_any [(a, 0, 1, 0), (b, 0, 1, 0), (a, 0, 0, 0), (1, 0, 0, 1), (b, -1, 4611686018427387904, -4611686018427387904), (3, 0, 1, 0)] (some ⟨w2.heap.size, 0, none⟩) 6 W (by simp) hWL h)
                    have P3 := Lib.hid (fun W h => turns_any [(a, 0, 1, 0), (b, 0, 1, 0), (a, 0, 0, 0), (1, 0, 0, 1), (b, -1, 4611686018427387904, -4611686018427387904), (3, 0, 1, 0)] (some ⟨w2.heap.size, 0, none⟩) 6 W (by simp) (by simp) (fun h => by cases h) hWL h)
                    have DL := Lib.hid hDL
                    clear hDL hWL
                    go_wp2_with fail
                    refine (P1.out _ DL.out).mono ?_
                    rintro e w4 ⟨rfl, hb4⟩
                    replace DL := Lib.hid (DL.out.below hb4)
                    replace BL := Lib.hid (on2 BL.out hb4)
                    clear hb4
                    go_wp2_with fail
                    refine (P2.out _ DL.out).mono ?_
                    rintro e w5 ⟨rfl, hb5⟩
                    replace DL := Lib.hid (DL.out.below hb5)
                    replace BL := Lib.hid (on2 BL.out hb5)
                    clear hb5
                    go_wp2_with fail
                    refine (P3.out _ DL.out).mono ?_
                    rintro e w6 ⟨rfl, hb6⟩
                    replace BL := Lib.hid (on2 BL.out hb6)
                    clear hb6
                    go_wp2_with fail
                    go_roundw
                    case rel => exact ⟨3, by omega, by omega, rfl, BL.out⟩
                    case measure => simp [intOf]
                  ·
                    have x := fun (i : Nat) (v : Value) (h : _) => below_cell BC.out (Nat.le_refl _) (G1.out.cell (i := i) (v := v) h)
                    have y0 := x 0 _ rfl
                    have y1 := x 1 _ rfl
                    have y2 := x 2 _ rfl
                    have y3 := x 3 _ rfl
                    have y4 := x 4 _ rfl
                    have y5 := x 5 _ rfl
                    have y6 := x 6 _ rfl
                    have y7 := x 7 _ rfl
                    have y8 := x 8 _ rfl
                    have y9 := x 9 _ rfl
                    have y10 := x 10 _ rfl
                    have y11 := x 11 _ rfl
                    have y12 := x 12 _ rfl
                    have y13 := x 13 _ rfl
                    have y14 := x 14 _ rfl
                    clear x
                    have r1 : (IntKind.i64.wrap 4).tmod 5 = 4 := by decide
                    have r2 : (IntKind.i64.wrap 5).tmod 5 = 0 := by decide
                    go_wp2_with fail
                    go_still_tail 37, (by kernel_rfl)
                    clear y0 y1 y2 y3 y4 y5 y6 y7 y8 y9 y10 y11 y12 y13 y14 r1 r2
                    change wpList _ _ _ _ _ wr.drew
                    have BD := Lib.hid (show Below W.heap.size W wr.drew from BC.out.drew)
                    generalize wr.drew = w2 at *
                    have hDL := isDeeds_lit (w := w2) (t := 32) (l := [(a, 0, 0, 1), (b, 0, 0, 1), (a, 0, 0, 0), (1, -1, 4611686018427387904, -4611686018427387904), (b, 0, 0, 0), (3, 0, 0, 1)]) (cs := (([(a, 0, 0, 1), (b, 0, 0, 1), (a, 0, 0, 0), (1, -1, 4611686018427387904, -4611686018427387904), (b, 0, 0, 0), (3, 0, 0, 1)] : List Dd).flatMap ddCells).toArray) rfl
                    have hWL : WfD [(a, 0, 0, 1), (b, 0, 0, 1), (a, 0, 0, 0), (1, -1, 4611686018427387904, -4611686018427387904), (b, 0, 0, 0), (3, 0, 0, 1)] := wfD_of (by kernel_rfl)
                    have BL := Lib.hid (BD.out.alloc BD.out.size (.cells (([(a, 0, 0, 1), (b, 0, 0, 1), (a, 0, 0, 0), (1, -1, 4611686018427387904, -4611686018427387904), (b, 0, 0, 0), (3, 0, 0, 1)] : List Dd).flatMap ddCells).toArray 32))
                    have P1 := Lib.hid (fun W h => heapplays_any [(a, 0, 0, 1), (b, 0, 0, 1), (a, 0, 0, 0), (1, -1, 4611686018427387904, -4611686018427387904), (b, 0, 0, 0), (3, 0, 0, 1)] (some ⟨w2.heap.size, 0, none⟩) 6 W (by simp) hWL h)
                    have P2 := Lib.hid (fun W h => heaplists_any [(a, 0, 0, 1), (b, 0, 0, 1), (a, 0, 0, 0), (1, -1, 4611686018427387904, -4611686018427387904), (b, 0, 0, 0), (3, 0, 0, 1)] (some ⟨w2.heap.size, 0, none⟩) 6 W (by simp) hWL h)
                    have P3 := Lib.hid (fun W h => turns_any [(a, 0, 0, 1), (b, 0, 0, 1), (a, 0, 0, 0), (1, -1, 4611686018427387904, -4611686018427387904), (b, 0, 0, 0), (3, 0, 0, 1)] (some ⟨w2.heap.size, 0, none⟩) 6 W (by simp) (by simp) (fun h => by cases h) hWL h)
                    have DL := Lib.hid hDL
                    clear hDL hWL
                    go_wp2_with fail
                    refine (P1.out _ DL.out).mono ?_
                    rintro e w4 ⟨rfl, hb4⟩
                    replace DL := Lib.hid (DL.out.below hb4)
                    replace BL := Lib.hid (on2 BL.out hb4)
                    clear hb4
                    go_wp2_with fail
                    refine (P2.out _ DL.out).mono ?_
                    rintro e w5 ⟨rfl, hb5⟩
                    replace DL := Lib.hid (DL.out.below hb5)
                    replace BL := Lib.hid (on2 BL.out hb5)
                    clear hb5
                    go_wp2_with fail
                    refine (P3.out _ DL.out).mono ?_
                    rintro e w6 ⟨rfl, hb6⟩
                    replace BL := Lib.hid (on2 BL.out hb6)
                    clear hb6
                    go_wp2_with fail
                    go_roundw
                    case rel => exact ⟨4, by omega, by omega, rfl, BL.out⟩
                    case measure => simp [intOf]
                  ·
                    have x := fun (i : Nat) (v : Value) (h : _) => below_cell BC.out (Nat.le_refl _) (G1.out.cell (i := i) (v := v) h)
                    have y0 := x 0 _ rfl
                    have y1 := x 1 _ rfl
                    have y2 := x 2 _ rfl
                    have y3 := x 3 _ rfl
                    have y4 := x 4 _ rfl
                    have y5 := x 5 _ rfl
                    have y6 := x 6 _ rfl
                    have y7 := x 7 _ rfl
                    have y8 := x 8 _ rfl
                    have y9 := x 9 _ rfl
                    have y10 := x 10 _ rfl
                    have y11 := x 11 _ rfl
                    have y12 := x 12 _ rfl
                    have y13 := x 13 _ rfl
                    have y14 := x 14 _ rfl
                    clear x
                    have r1 : (IntKind.i64.wrap 5).tmod 5 = 0 := by decide
                    have r2 : (IntKind.i64.wrap 6).tmod 5 = 1 := by decide
                    go_wp2_with fail
                    go_still_tail 37, (by kernel_rfl)
                    clear y0 y1 y2 y3 y4 y5 y6 y7 y8 y9 y10 y11 y12 y13 y14 r1 r2
                    change wpList _ _ _ _ _ wr.drew
                    have BD := Lib.hid (show Below W.heap.size W wr.drew from BC.out.drew)
                    generalize wr.drew = w2 at *
                    have hDL := isDeeds_lit (w := w2) (t := 32) (l := [(a, -1, 4611686018427387904, -4611686018427387904), (b, -1, 4611686018427387904, -4611686018427387904), (a, 0, 0, 0), (1, 0, 0, 0), (b, 1, 0, 0), (3, -1, 4611686018427387904, -4611686018427387904)]) (cs := (([(a, -1, 4611686018427387904, -4611686018427387904), (b, -1, 4611686018427387904, -4611686018427387904), (a, 0, 0, 0), (1, 0, 0, 0), (b, 1, 0, 0), (3, -1, 4611686018427387904, -4611686018427387904)] : List Dd).flatMap ddCells).toArray) rfl
                    have hWL : WfD [(a, -1, 4611686018427387904, -4611686018427387904), (b, -1, 4611686018427387904, -4611686018427387904), (a, 0, 0, 0), (1, 0, 0, 0), (b, 1, 0, 0), (3, -1, 4611686018427387904, -4611686018427387904)] := wfD_of (by kernel_rfl)
                    have BL := Lib.hid (BD.out.alloc BD.out.size (.cells (([(a, -1, 4611686018427387904, -4611686018427387904), (b, -1, 4611686018427387904, -4611686018427387904), (a, 0, 0, 0), (1, 0, 0, 0), (b, 1, 0, 0), (3, -1, 4611686018427387904, -4611686018427387904)] : List Dd).flatMap ddCells).toArray 32))
                    have P1 := Lib.hid (fun W h => heapplays_any [(a, -1, 4611686018427387904, -4611686018427387904), (b, -1, 4611686018427387904, -4611686018427387904), (a, 0, 0, 0), (1, 0, 0, 0), (b, 1, 0, 0), (3, -1, 4611686018427387904, -4611686018427387904)] (some ⟨w2.heap.size, 0, none⟩) 6 W (by simp) hWL h)
                    have P2 := Lib.hid (fun W h => heaplists_any [(a, -1, 4611686018427387904, -4611686018427387904), (b, -1, 4611686018427387904, -4611686018427387904), (a, 0, 0, 0), (1, 0, 0, 0), (b, 1, 0, 0), (3, -1, 4611686018427387904, -4611686018427387904)] (some ⟨w2.heap.size, 0, none⟩) 6 W (by simp) hWL h)
                    have P3 := Lib.hid (fun W h => turns_any [(a, -1, 4611686018427387904, -4611686018427387904), (b, -1, 4611686018427387904, -4611686018427387904), (a, 0, 0, 0), (1, 0, 0, 0), (b, 1, 0, 0), (3, -1, 4611686018427387904, -4611686018427387904)] (some ⟨w2.heap.size, 0, none⟩) 6 W (by simp) (by simp) (fun h => by cases h) hWL h)
                    have DL := Lib.hid hDL
                    clear hDL hWL
                    go_wp2_with fail
                    refine (P1.out _ DL.out).mono ?_
                    rintro e w4 ⟨rfl, hb4⟩
                    replace DL := Lib.hid (DL.out.below hb4)
                    replace BL := Lib.hid (on2 BL.out hb4)
                    clear hb4
                    go_wp2_with fail
                    refine (P2.out _ DL.out).mono ?_
                    rintro e w5 ⟨rfl, hb5⟩
                    replace DL := Lib.hid (DL.out.below hb5)
                    replace BL := Lib.hid (on2 BL.out hb5)
                    clear hb5
                    go_wp2_with fail
                    refine (P3.out _ DL.out).mono ?_
                    rintro e w6 ⟨rfl, hb6⟩
                    replace BL := Lib.hid (on2 BL.out hb6)
                    clear hb6
                    go_wp2_with fail
                    go_roundw
                    case rel => exact ⟨5, by omega, by omega, rfl, BL.out⟩
                    case measure => simp [intOf]
                · obtain rfl : c = 5 := by omega
                  go_wp2_with fail
                  go_roundw
                  case rel => exact ⟨b + 1, by omega, by omega, rfl, BC.out⟩
                  case measure => simp [intOf]; omega
            · obtain rfl : b = 6 := by omega
              go_wp2_with fail
              go_roundw
              case rel => exact ⟨a + 1, by omega, by omega, rfl, BBb.out⟩
              case measure => simp [intOf]; omega
        · obtain rfl : a = 6 := by omega
          have BX := Lib.hid (B1.out.trans (BA.out.mono B1.out.size))
          go_wp2_with fail
          refine (works_any _).mono ?_
          rintro e w4 ⟨rfl, hb4⟩
          have B6 := Lib.hid (on2 BX.out hb4)
          clear hb4
          go_wp2_with fail
          refine (heaplists_any [] none 0 _ (by simp) (fun d hd => by cases hd) (fun h => absurd rfl h)).mono ?_
          rintro e w5 ⟨rfl, hb5⟩
          have B7 := Lib.hid (on2 B6.out hb5)
          clear hb5
          go_wp2_with fail
          go_ret
          exact ⟨rfl, B7.out⟩
end Go.Proofs.Ythmkmjoeceghiaa
