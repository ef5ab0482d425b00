/- Out's closure. -/
import Derived.Test.YthmkmjoeceghiaaW
namespace Go.Proofs.Ythmkmjoeceghiaa
open Go.RowKit Go.Shelf

set_option maxRecDepth 100000 in
set_option maxHeartbeats 1000000 in
theorem closure_any (x y : Ob) (W : World) : Calls Try.prog 51 #[obV x, obV y] W fun e w' => e = .returned (.int .i64 (cmpO x y)) ∧ ∃ q os', w' = Sort.grow (W.drewN q) os' := by
  obtain ⟨x0, x1, x2⟩ := x
  obtain ⟨y0, y1, y2⟩ := y
  have HO := Lib.hid (show cmpO (x0, x1, x2) (y0, y1, y2) = or3 (Lib.compareInt x0 y0) (Lib.compareInt x1 y1) (Lib.compareInt x2 y2) from rfl)
  have A := (Blk.new W #[.int .i64 x0, .int .i64 x1, .int .i64 x2] 30).alloc (.cells #[.int .i64 y0, .int .i64 y1, .int .i64 y2] 30)
  have B := Blk.new (W.alloc (.cells #[.int .i64 x0, .int .i64 x1, .int .i64 x2] 30)) #[.int .i64 y0, .int .i64 y1, .int .i64 y2] 30
  rw [World.size_alloc] at B
  have a0 := A.cell (i := 0) rfl
  have a1 := A.cell (i := 1) rfl
  have a2 := A.cell (i := 2) rfl
  have b0 := B.cell (i := 0) rfl
  have b1 := B.cell (i := 1) rfl
  have b2 := B.cell (i := 2) rfl
  have HW := Lib.hid (show (W.alloc (.cells #[.int .i64 x0, .int .i64 x1, .int .i64 x2] 30)).alloc (.cells #[.int .i64 y0, .int .i64 y1, .int .i64 y2] 30) = Sort.grow W #[.cells #[.int .i64 x0, .int .i64 x1, .int .i64 x2] 30, .cells #[.int .i64 y0, .int .i64 y1, .int .i64 y2] 30] from by
    rw [Sort.alloc_eq_grow, Sort.alloc_eq_grow, Sort.grow_grow]; rfl)
  clear A B
  go_enter Try.func51, Try.ntmps51
  go_wp2_with fail
  generalize (W.alloc (.cells #[.int .i64 x0, .int .i64 x1, .int .i64 x2] 30)).alloc (.cells #[.int .i64 y0, .int .i64 y1, .int .i64 y2] 30) = W2 at *
  have hHB : (fun w' : World => w'.cell? ⟨W.heap.size, 0, none⟩ = some (.int .i64 x0) ∧ w'.cell? ⟨W.heap.size, 1, none⟩ = some (.int .i64 x1) ∧ w'.cell? ⟨W.heap.size, 2, none⟩ = some (.int .i64 x2) ∧ w'.cell? ⟨W.heap.size + 1, 0, none⟩ = some (.int .i64 y0) ∧ w'.cell? ⟨W.heap.size + 1, 1, none⟩ = some (.int .i64 y1) ∧ w'.cell? ⟨W.heap.size + 1, 2, none⟩ = some (.int .i64 y2)) W2.drew := ⟨a0, a1, a2, b0, b1, b2⟩
  refine till_start 17 (fun w' : World => w'.cell? ⟨W.heap.size, 0, none⟩ = some (.int .i64 x0) ∧ w'.cell? ⟨W.heap.size, 1, none⟩ = some (.int .i64 x1) ∧ w'.cell? ⟨W.heap.size, 2, none⟩ = some (.int .i64 x2) ∧ w'.cell? ⟨W.heap.size + 1, 0, none⟩ = some (.int .i64 y0) ∧ w'.cell? ⟨W.heap.size + 1, 1, none⟩ = some (.int .i64 y1) ∧ w'.cell? ⟨W.heap.size + 1, 2, none⟩ = some (.int .i64 y2)) (by kernel_rfl) ?_
  refine till_take (i := 0) (v := ?_) rfl (by kernel_rfl) (by kernel_rfl) (by kernel_rfl) (by kernel_rfl) (fun _ _ _ h => h) (Or.inl ⟨by rfl, ?_⟩) hHB ?_
  rotate_left
  · (intro w hSw; (try dsimp only at hSw); go_simp; try with_reducible rfl)
  try simp only [Act.put, List.setIfInBounds_toArray, List.set_cons_zero, List.set_cons_succ]
  refine till_take (i := 1) (v := ?_) rfl (by kernel_rfl) (by kernel_rfl) (by kernel_rfl) (by kernel_rfl) (fun _ _ _ h => h) (Or.inl ⟨by rfl, ?_⟩) hHB ?_
  rotate_left
  · (intro w hSw; (try dsimp only at hSw); go_simp; try with_reducible rfl)
  try simp only [Act.put, List.setIfInBounds_toArray, List.set_cons_zero, List.set_cons_succ]
  refine till_take (i := 2) (v := ?_) rfl (by kernel_rfl) (by kernel_rfl) (by kernel_rfl) (by kernel_rfl) (fun _ _ _ h => h) (Or.inl ⟨by rfl, ?_⟩) hHB ?_
  rotate_left
  · (intro w hSw; (try dsimp only at hSw); go_simp; try with_reducible rfl)
  try simp only [Act.put, List.setIfInBounds_toArray, List.set_cons_zero, List.set_cons_succ]
  refine till_take (i := 3) (v := ?_) rfl (by kernel_rfl) (by kernel_rfl) (by kernel_rfl) (by kernel_rfl) (fun _ _ _ h => h) (Or.inl ⟨by rfl, ?_⟩) hHB ?_
  rotate_left
  · (intro w hSw; (try dsimp only at hSw); go_simp; try with_reducible rfl)
  try simp only [Act.put, List.setIfInBounds_toArray, List.set_cons_zero, List.set_cons_succ]
  refine till_take (i := 5) (v := ?_) rfl (by kernel_rfl) (by kernel_rfl) (by kernel_rfl) (by kernel_rfl) (fun _ _ _ h => h) (Or.inl ⟨by rfl, ?_⟩) hHB ?_
  rotate_left
  · (intro w hSw; (try dsimp only at hSw); go_simp; try with_reducible rfl)
  try simp only [Act.put, List.setIfInBounds_toArray, List.set_cons_zero, List.set_cons_succ]
  refine till_take (i := 6) (v := ?_) rfl (by kernel_rfl) (by kernel_rfl) (by kernel_rfl) (by kernel_rfl) (fun _ _ _ h => h) (Or.inl ⟨by rfl, ?_⟩) hHB ?_
  rotate_left
  · (intro w hSw; (try dsimp only at hSw); go_simp; try with_reducible rfl)
  try simp only [Act.put, List.setIfInBounds_toArray, List.set_cons_zero, List.set_cons_succ]
  refine till_take (i := 7) (v := ?_) rfl (by kernel_rfl) (by kernel_rfl) (by kernel_rfl) (by kernel_rfl) (fun _ _ _ h => h) (Or.inl ⟨by rfl, ?_⟩) hHB ?_
  rotate_left
  · (intro w hSw; (try dsimp only at hSw); go_simp; try with_reducible rfl)
  try simp only [Act.put, List.setIfInBounds_toArray, List.set_cons_zero, List.set_cons_succ]
  refine till_take (i := 8) (v := ?_) rfl (by kernel_rfl) (by kernel_rfl) (by kernel_rfl) (by kernel_rfl) (fun _ _ _ h => h) (Or.inl ⟨by rfl, ?_⟩) hHB ?_
  rotate_left
  · (intro w hSw; (try dsimp only at hSw); go_simp; try with_reducible rfl)
  try simp only [Act.put, List.setIfInBounds_toArray, List.set_cons_zero, List.set_cons_succ]
  refine till_take (i := 10) (v := ?_) rfl (by kernel_rfl) (by kernel_rfl) (by kernel_rfl) (by kernel_rfl) (fun _ _ _ h => h) (Or.inl ⟨by rfl, ?_⟩) hHB ?_
  rotate_left
  · (intro w hSw; (try dsimp only at hSw); go_simp; try with_reducible rfl)
  try simp only [Act.put, List.setIfInBounds_toArray, List.set_cons_zero, List.set_cons_succ]
  refine till_take (i := 11) (v := ?_) rfl (by kernel_rfl) (by kernel_rfl) (by kernel_rfl) (by kernel_rfl) (fun _ _ _ h => h) (Or.inl ⟨by rfl, ?_⟩) hHB ?_
  rotate_left
  · (intro w hSw; (try dsimp only at hSw); go_simp; try with_reducible rfl)
  try simp only [Act.put, List.setIfInBounds_toArray, List.set_cons_zero, List.set_cons_succ]
  refine till_take (i := 12) (v := ?_) rfl (by kernel_rfl) (by kernel_rfl) (by kernel_rfl) (by kernel_rfl) (fun _ _ _ h => h) (Or.inl ⟨by rfl, ?_⟩) hHB ?_
  rotate_left
  · (intro w hSw; (try dsimp only at hSw); go_simp; try with_reducible rfl)
  try simp only [Act.put, List.setIfInBounds_toArray, List.set_cons_zero, List.set_cons_succ]
  refine till_take (i := 13) (v := ?_) rfl (by kernel_rfl) (by kernel_rfl) (by kernel_rfl) (by kernel_rfl) (fun _ _ _ h => h) (Or.inl ⟨by rfl, ?_⟩) hHB ?_
  rotate_left
  · (intro w hSw; (try dsimp only at hSw); go_simp; try with_reducible rfl)
  try simp only [Act.put, List.setIfInBounds_toArray, List.set_cons_zero, List.set_cons_succ]
  refine till_one (i := 4) (by kernel_rfl) rfl (fun K hK => ?_)
  go_simp
  refine (compare_any x0 y0 _).mono ?_
  rintro e w' ⟨rfl, rfl⟩
  try go_wp2_with fail
  refine hK.out _ _ (fun _ => hHB) ?_
  clear hK K
  try simp only [Act.put, List.setIfInBounds_toArray, List.set_cons_zero, List.set_cons_succ]
  refine till_one (i := 9) (by kernel_rfl) rfl (fun K hK => ?_)
  go_simp
  refine (compare_any x1 y1 _).mono ?_
  rintro e w' ⟨rfl, rfl⟩
  try go_wp2_with fail
  refine hK.out _ _ (fun _ => hHB) ?_
  clear hK K
  try simp only [Act.put, List.setIfInBounds_toArray, List.set_cons_zero, List.set_cons_succ]
  refine till_one (i := 14) (by kernel_rfl) rfl (fun K hK => ?_)
  go_simp
  refine (compare_any x2 y2 _).mono ?_
  rintro e w' ⟨rfl, rfl⟩
  try go_wp2_with fail
  refine hK.out _ _ (fun _ => hHB) ?_
  clear hK K
  try simp only [Act.put, List.setIfInBounds_toArray, List.set_cons_zero, List.set_cons_succ]
  refine till_one (i := 15) (by kernel_rfl) rfl (fun K hK => ?_)
  go_simp
  have C := Blk.new W2 #[.int .i64 (Lib.compareInt x0 y0), .int .i64 (Lib.compareInt x1 y1), .int .i64 (Lib.compareInt x2 y2)] 3
  have hb3 : Below W2.heap.size W2 (W2.alloc (.cells #[.int .i64 (Lib.compareInt x0 y0), .int .i64 (Lib.compareInt x1 y1), .int .i64 (Lib.compareInt x2 y2)] 3)).drew := (by repeat (first | exact Below.refl _ _ | assumption | refine Below.setCell ?_ (by first | omega | (simp; done) | (simp; omega)) _ | refine Below.drew ?_ | refine Below.alloc ?_ (by first | omega | (simp; done) | (simp; omega)) _ | refine Below.trans ?_ (Below.mono (by assumption) (by first | omega | (simp; done) | (simp; omega)))))
  replace hHB : (fun w' : World => w'.cell? ⟨W.heap.size, 0, none⟩ = some (.int .i64 x0) ∧ w'.cell? ⟨W.heap.size, 1, none⟩ = some (.int .i64 x1) ∧ w'.cell? ⟨W.heap.size, 2, none⟩ = some (.int .i64 x2) ∧ w'.cell? ⟨W.heap.size + 1, 0, none⟩ = some (.int .i64 y0) ∧ w'.cell? ⟨W.heap.size + 1, 1, none⟩ = some (.int .i64 y1) ∧ w'.cell? ⟨W.heap.size + 1, 2, none⟩ = some (.int .i64 y2)) (W2.alloc (.cells #[.int .i64 (Lib.compareInt x0 y0), .int .i64 (Lib.compareInt x1 y1), .int .i64 (Lib.compareInt x2 y2)] 3)).drew :=
    ⟨below_cell hb3 (Nat.le_refl _) a0, below_cell hb3 (Nat.le_refl _) a1, below_cell hb3 (Nat.le_refl _) a2, below_cell hb3 (Nat.le_refl _) b0, below_cell hb3 (Nat.le_refl _) b1, below_cell hb3 (Nat.le_refl _) b2⟩
  have c0 := C.cell (i := 0) rfl
  have c1 := C.cell (i := 1) rfl
  have c2 := C.cell (i := 2) rfl
  refine hK.out _ _ (fun _ => hHB) ?_
  clear hK K a0 a1 a2 b0 b1 b2
  try simp only [Act.put, List.setIfInBounds_toArray, List.set_cons_zero, List.set_cons_succ]
  refine till_one (i := 16) (by kernel_rfl) rfl (fun K hK => ?_)
  go_simp
  refine (or_any _ _ _ W2.heap.size 3 (W2.alloc (.cells #[.int .i64 (Lib.compareInt x0 y0), .int .i64 (Lib.compareInt x1 y1), .int .i64 (Lib.compareInt x2 y2)] 3)).drew c0 c1 c2).mono ?_
  rintro e w' ⟨rfl, rfl⟩
  rw [← HO.out]
  try go_wp2_with fail
  refine hK.out _ _ (fun _ => hHB) ?_
  clear hK K
  try simp only [Act.put, List.setIfInBounds_toArray, List.set_cons_zero, List.set_cons_succ]
  refine till_one (i := 17) (by kernel_rfl) rfl (fun K hK => ?_)
  go_simp
  refine hK.out _ _ (fun h => absurd rfl h) ?_
  clear hK K
  try simp only [Act.put, List.setIfInBounds_toArray, List.set_cons_zero, List.set_cons_succ]
  refine till_done (by kernel_rfl) ?_ _
  go_wp2_with fail
  go_ret
  refine ⟨rfl, 1, #[.cells #[.int .i64 x0, .int .i64 x1, .int .i64 x2] 30, .cells #[.int .i64 y0, .int .i64 y1, .int .i64 y2] 30] ++ #[.cells #[.int .i64 (Lib.compareInt x0 y0), .int .i64 (Lib.compareInt x1 y1), .int .i64 (Lib.compareInt x2 y2)] 3], ?_⟩
  rw [Sort.alloc_eq_grow, HW.out, Sort.grow_grow]
  rfl
end Go.Proofs.Ythmkmjoeceghiaa
