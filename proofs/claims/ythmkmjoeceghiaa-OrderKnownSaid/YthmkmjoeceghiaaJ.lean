/- works; HeapLists. -/
import Derived.Test.YthmkmjoeceghiaaI
import Derived.Deep.DeepCutAuto
namespace Go.Proofs.Ythmkmjoeceghiaa
open Go.RowKit

attribute [local go_sem ↓] Go.wp_at_zero Go.wp_at_succ
theorem al3 (W : World) (a b c : Obj) : ((((W.alloc a).alloc b).alloc c).drew).heap[W.heap.size]? = some a ∧ ((((W.alloc a).alloc b).alloc c).drew).heap[W.heap.size + 1]? = some b ∧ ((((W.alloc a).alloc b).alloc c).drew).heap[W.heap.size + 1 + 1]? = some c := by
  have h0 := heap_alloc_new W a
  have h1 := heap_alloc_new (W.alloc a) b
  have h2 := heap_alloc_new ((W.alloc a).alloc b) c
  have s1 : (W.alloc a).heap.size = W.heap.size + 1 := by simp
  have s2 : ((W.alloc a).alloc b).heap.size = W.heap.size + 1 + 1 := by simp
  rw [s1] at h1
  rw [s2] at h2
  exact ⟨(heap_alloc_old ((W.alloc a).alloc b) c (by omega)).trans ((heap_alloc_old (W.alloc a) b (by omega)).trans h0), (heap_alloc_old ((W.alloc a).alloc b) c (by omega)).trans h1, h2⟩
theorem wfD_of {l : List Dd} (h : l.all (fun d => decide (-9223372036854775808 ≤ d.2.1) && decide (d.2.1 ≤ 9223372036854775807) && decide (-9223372036854775808 ≤ d.2.2.1) && decide (d.2.2.1 ≤ 9223372036854775807) && decide (-9223372036854775808 ≤ d.2.2.2) && decide (d.2.2.2 ≤ 9223372036854775807)) = true) : WfD l := fun d hd => by
  have := List.all_eq_true.1 h d hd
  simp only [Bool.and_eq_true, decide_eq_true_eq] at this
  exact ⟨⟨this.1.1.1.1.1, this.1.1.1.1.2⟩, ⟨this.1.1.1.2, this.1.1.2⟩, ⟨this.1.2, this.2⟩⟩
/-- deeds written out -/
theorem isDeeds_lit {w : World} {cs : Array Value} {t : TypeId} {l : List Dd} (hc : cs.toList = l.flatMap ddCells) : IsDeeds (w.alloc (.cells cs t)) (some ⟨w.heap.size, 0, none⟩) l := fun _ => ⟨w.heap.size, 0, rfl, fun k c hk => by
  have hb : Blk (w.alloc (.cells cs t)) w.heap.size cs t := Blk.new w cs t
  have hat : ∀ (l : List Dd) (k : Nat), l[k]? = some c → ∀ j, j < 4 → (l.flatMap ddCells)[k * 4 + j]? = (ddCells c)[j]? := by
    intro l
    induction l with
    | nil => intro k h; simp at h
    | cons x l ih =>
      intro k h j hj
      have hx : (ddCells x).length = 4 := rfl
      rw [List.flatMap_cons]
      cases k with
      | zero =>
        obtain rfl : x = c := by simpa using h
        rw [Nat.zero_mul, Nat.zero_add, List.getElem?_append_left (by omega)]
      | succ k =>
        rw [List.getElem?_append_right (by omega), hx, show (k + 1) * 4 + j - 4 = k * 4 + j by omega]
        exact ih k (by simpa using h) j hj
  have at_ : ∀ j v, j < 4 → (ddCells c)[j]? = some v → (w.alloc (.cells cs t)).cell? ⟨w.heap.size, 0 + k * 4 + j, none⟩ = some v := fun j v hj hv => hb.cell (by rw [← Array.getElem?_toList, hc, Nat.zero_add, hat l k hk j hj, hv])
  exact ⟨at_ 0 _ (by omega) rfl, at_ 1 _ (by omega) rfl, at_ 2 _ (by omega) rfl, at_ 3 _ (by omega) rfl⟩⟩
set_option maxRecDepth 100000 in
set_option maxHeartbeats 1000000 in
theorem works_any (w : World) : Calls Try.prog 18 #[] w fun e w' => e = .returned (.bool true) ∧ Below w.heap.size w w' := by
  have hb1 : Below w.heap.size w (w.alloc (.cells #[.int .i64 1, .int .i64 2, .int .i64 3] 30)) := (by repeat (first | exact Below.refl _ _ | assumption | refine Below.setCell ?_ (by first | omega | (simp; done) | (simp; omega)) _ | refine Below.drew ?_ | refine Below.alloc ?_ (by first | omega | (simp; done) | (simp; omega)) _ | refine Below.trans ?_ (Below.mono (by assumption) (by first | omega | (simp; done) | (simp; omega)))))
  have T := Blk.new w #[.int .i64 1, .int .i64 2, .int .i64 3] 30
  have HB := Lib.hid hb1
  have t0 := T.cell (i := 0) rfl
  have t1 := T.cell (i := 1) rfl
  have t2 := T.cell (i := 2) rfl
  simp at t0 t1 t2
  clear hb1
  go_enter Try.func18, Try.ntmps18
  go_upto_region 2 with fail
  generalize w.alloc (.cells #[.int .i64 1, .int .i64 2, .int .i64 3] 30) = W at *
  go_cut [2, 3, 4] (fun s2 s3 s4 wx => ∃ g2 g3 g4 : Nat, s2 = .pointer (some ⟨g2, 0, none⟩) ∧ s3 = .pointer (some ⟨g3, 0, none⟩) ∧ s4 = .pointer (some ⟨g4, 0, none⟩) ∧ Blk wx g2 #[.int .i64 1, .int .i64 1, .int .i64 2, .int .i64 3] 32 ∧ Blk wx g3 #[.int .i64 3, .int .i64 1, .int .i64 2, .int .i64 3] 32 ∧ Blk wx g4 #[.int .i64 4, .int .i64 1, .int .i64 2, .int .i64 3] 32 ∧ Below W.heap.size W wx)
  case first =>
    have t0 := T.cell (i := 0) rfl
    have t1 := T.cell (i := 1) rfl
    have t2 := T.cell (i := 2) rfl
    simp at t0 t1 t2
    have hS : ∀ w' : World, Below W.heap.size W w' → w'.cell? ⟨w.heap.size, 0, none⟩ = some (.int .i64 1) ∧ w'.cell? ⟨w.heap.size, 1, none⟩ = some (.int .i64 2) ∧ w'.cell? ⟨w.heap.size, 2, none⟩ = some (.int .i64 3) := fun w' h => ⟨below_cell h (Nat.le_refl _) t0, below_cell h (Nat.le_refl _) t1, below_cell h (Nat.le_refl _) t2⟩
    have HS := Lib.hid hS
    clear hS t0 t1 t2
    go_region_held3 (fun w' => w'.cell? ⟨w.heap.size, 0, none⟩ = some (.int .i64 1) ∧ w'.cell? ⟨w.heap.size, 1, none⟩ = some (.int .i64 2) ∧ w'.cell? ⟨w.heap.size, 2, none⟩ = some (.int .i64 3))
      (exact HS.out _ (by repeat (first | exact Below.refl _ _ | assumption | refine Below.setCell ?_ (by first | omega | (simp; done) | (simp; omega)) _ | refine Below.drew ?_ | refine Below.alloc ?_ (by first | omega | (simp; done) | (simp; omega)) _ | refine Below.trans ?_ (Below.mono (by assumption) (by first | omega | (simp; done) | (simp; omega)))))) (fail)
    all_goals
      go_wp2_with fail
      go_meet
      refine ⟨_, _, _, rfl, rfl, rfl, ?_, ?_, ?_, (by repeat (first | exact Below.refl _ _ | assumption | refine Below.setCell ?_ (by first | omega | (simp; done) | (simp; omega)) _ | refine Below.drew ?_ | refine Below.alloc ?_ (by first | omega | (simp; done) | (simp; omega)) _ | refine Below.trans ?_ (Below.mono (by assumption) (by first | omega | (simp; done) | (simp; omega)))))⟩ <;> (unfold Blk; first | exact (al3 _ _ _ _).1 | exact (al3 _ _ _ _).2.1 | exact (al3 _ _ _ _).2.2)
  case rest =>
    obtain ⟨g2, g3, g4, rfl, rfl, rfl, h2, h3, h4, hb⟩ := hcut
    replace HB := Lib.hid (on HB.out hb)
    clear T hb
    have H2 := Lib.hid h2
    have H3 := Lib.hid h3
    have H4 := Lib.hid h4
    clear h2 h3 h4
    have p0 := H2.out.cell (i := 0) rfl
    have p1 := H2.out.cell (i := 1) rfl
    have p2 := H2.out.cell (i := 2) rfl
    have p3 := H2.out.cell (i := 3) rfl
    have q0 := H3.out.cell (i := 0) rfl
    have q1 := H3.out.cell (i := 1) rfl
    have q2 := H3.out.cell (i := 2) rfl
    have q3 := H3.out.cell (i := 3) rfl
    have r0 := H4.out.cell (i := 0) rfl
    have r1 := H4.out.cell (i := 1) rfl
    have r2 := H4.out.cell (i := 2) rfl
    have r3 := H4.out.cell (i := 3) rfl
    simp at p0 p1 p2 p3 q0 q1 q2 q3 r0 r1 r2 r3
    go_wp2_with fail
    have hal := isDeeds_lit (w := wc) (t := 32) (l := [(1, 1, 2, 3), (3, 1, 2, 3), (4, 1, 2, 3), (2, 0, 0, 0), (1, 1, 2, 3)]) (cs := #[.int .i64 1, .int .i64 1, .int .i64 2, .int .i64 3, .int .i64 3, .int .i64 1, .int .i64 2, .int .i64 3, .int .i64 4, .int .i64 1, .int .i64 2, .int .i64 3, .int .i64 2, .int .i64 0, .int .i64 0, .int .i64 0, .int .i64 1, .int .i64 1, .int .i64 2, .int .i64 3]) rfl
    have hbA : Below (wc).heap.size (wc) ((wc).alloc (.cells #[.int .i64 1, .int .i64 1, .int .i64 2, .int .i64 3, .int .i64 3, .int .i64 1, .int .i64 2, .int .i64 3, .int .i64 4, .int .i64 1, .int .i64 2, .int .i64 3, .int .i64 2, .int .i64 0, .int .i64 0, .int .i64 0, .int .i64 1, .int .i64 1, .int .i64 2, .int .i64 3] 32)) := (Below.refl _ _).alloc (Nat.le_refl _) _
    refine (plays_any _ _ [(1, 1, 2, 3), (3, 1, 2, 3), (4, 1, 2, 3), (2, 0, 0, 0), (1, 1, 2, 3)] _ _ _ true _ rfl (by simp) (wfD_of (by kernel_rfl)) hal (by kernel_rfl)).mono ?_
    rintro e wd ⟨rfl, hb⟩
    have hbB := on hbA hb
    replace HB := Lib.hid (on HB.out hbB)
    replace H2 := Lib.hid (H2.out.below hbB)
    replace H3 := Lib.hid (H3.out.below hbB)
    replace H4 := Lib.hid (H4.out.below hbB)
    clear p0 p1 p2 p3 q0 q1 q2 q3 r0 r1 r2 r3 hal hbA hb hbB
    have p0 := H2.out.cell (i := 0) rfl
    have p1 := H2.out.cell (i := 1) rfl
    have p2 := H2.out.cell (i := 2) rfl
    have p3 := H2.out.cell (i := 3) rfl
    have q0 := H3.out.cell (i := 0) rfl
    have q1 := H3.out.cell (i := 1) rfl
    have q2 := H3.out.cell (i := 2) rfl
    have q3 := H3.out.cell (i := 3) rfl
    have r0 := H4.out.cell (i := 0) rfl
    have r1 := H4.out.cell (i := 1) rfl
    have r2 := H4.out.cell (i := 2) rfl
    have r3 := H4.out.cell (i := 3) rfl
    simp at p0 p1 p2 p3 q0 q1 q2 q3 r0 r1 r2 r3
    go_wp2_with fail
    have hal := isDeeds_lit (w := wd) (t := 32) (l := [(1, 1, 2, 3), (1, 1, 2, 3)]) (cs := #[.int .i64 1, .int .i64 1, .int .i64 2, .int .i64 3, .int .i64 1, .int .i64 1, .int .i64 2, .int .i64 3]) rfl
    have hbA : Below (wd).heap.size (wd) ((wd).alloc (.cells #[.int .i64 1, .int .i64 1, .int .i64 2, .int .i64 3, .int .i64 1, .int .i64 1, .int .i64 2, .int .i64 3] 32)) := (Below.refl _ _).alloc (Nat.le_refl _) _
    refine (plays_any _ _ [(1, 1, 2, 3), (1, 1, 2, 3)] _ _ _ true _ rfl (by simp) (wfD_of (by kernel_rfl)) hal (by kernel_rfl)).mono ?_
    rintro e we ⟨rfl, hb⟩
    have hbB := on hbA hb
    replace HB := Lib.hid (on HB.out hbB)
    replace H2 := Lib.hid (H2.out.below hbB)
    replace H3 := Lib.hid (H3.out.below hbB)
    replace H4 := Lib.hid (H4.out.below hbB)
    clear p0 p1 p2 p3 q0 q1 q2 q3 r0 r1 r2 r3 hal hbA hb hbB
    have p0 := H2.out.cell (i := 0) rfl
    have p1 := H2.out.cell (i := 1) rfl
    have p2 := H2.out.cell (i := 2) rfl
    have p3 := H2.out.cell (i := 3) rfl
    have q0 := H3.out.cell (i := 0) rfl
    have q1 := H3.out.cell (i := 1) rfl
    have q2 := H3.out.cell (i := 2) rfl
    have q3 := H3.out.cell (i := 3) rfl
    have r0 := H4.out.cell (i := 0) rfl
    have r1 := H4.out.cell (i := 1) rfl
    have r2 := H4.out.cell (i := 2) rfl
    have r3 := H4.out.cell (i := 3) rfl
    simp at p0 p1 p2 p3 q0 q1 q2 q3 r0 r1 r2 r3
    go_wp2_with fail
    have hal := isDeeds_lit (w := we) (t := 32) (l := [(3, 1, 2, 3)]) (cs := #[.int .i64 3, .int .i64 1, .int .i64 2, .int .i64 3]) rfl
    have hbA : Below (we).heap.size (we) ((we).alloc (.cells #[.int .i64 3, .int .i64 1, .int .i64 2, .int .i64 3] 32)) := (Below.refl _ _).alloc (Nat.le_refl _) _
    refine (plays_any _ _ [(3, 1, 2, 3)] _ _ _ true _ rfl (by simp) (wfD_of (by kernel_rfl)) hal (by kernel_rfl)).mono ?_
    rintro e wf ⟨rfl, hb⟩
    have hbB := on hbA hb
    replace HB := Lib.hid (on HB.out hbB)
    replace H2 := Lib.hid (H2.out.below hbB)
    replace H3 := Lib.hid (H3.out.below hbB)
    replace H4 := Lib.hid (H4.out.below hbB)
    clear p0 p1 p2 p3 q0 q1 q2 q3 r0 r1 r2 r3 hal hbA hb hbB
    have p0 := H2.out.cell (i := 0) rfl
    have p1 := H2.out.cell (i := 1) rfl
    have p2 := H2.out.cell (i := 2) rfl
    have p3 := H2.out.cell (i := 3) rfl
    have q0 := H3.out.cell (i := 0) rfl
    have q1 := H3.out.cell (i := 1) rfl
    have q2 := H3.out.cell (i := 2) rfl
    have q3 := H3.out.cell (i := 3) rfl
    have r0 := H4.out.cell (i := 0) rfl
    have r1 := H4.out.cell (i := 1) rfl
    have r2 := H4.out.cell (i := 2) rfl
    have r3 := H4.out.cell (i := 3) rfl
    simp at p0 p1 p2 p3 q0 q1 q2 q3 r0 r1 r2 r3
    go_wp2_with fail
    have hal := isDeeds_lit (w := wf) (t := 32) (l := [(1, 1, 2, 3), (4, 1, 2, 3)]) (cs := #[.int .i64 1, .int .i64 1, .int .i64 2, .int .i64 3, .int .i64 4, .int .i64 1, .int .i64 2, .int .i64 3]) rfl
    have hbA : Below (wf).heap.size (wf) ((wf).alloc (.cells #[.int .i64 1, .int .i64 1, .int .i64 2, .int .i64 3, .int .i64 4, .int .i64 1, .int .i64 2, .int .i64 3] 32)) := (Below.refl _ _).alloc (Nat.le_refl _) _
    refine (plays_any _ _ [(1, 1, 2, 3), (4, 1, 2, 3)] _ _ _ true _ rfl (by simp) (wfD_of (by kernel_rfl)) hal (by kernel_rfl)).mono ?_
    rintro e wg ⟨rfl, hb⟩
    have hbB := on hbA hb
    replace HB := Lib.hid (on HB.out hbB)
    replace H2 := Lib.hid (H2.out.below hbB)
    replace H3 := Lib.hid (H3.out.below hbB)
    replace H4 := Lib.hid (H4.out.below hbB)
    clear p0 p1 p2 p3 q0 q1 q2 q3 r0 r1 r2 r3 hal hbA hb hbB
    have p0 := H2.out.cell (i := 0) rfl
    have p1 := H2.out.cell (i := 1) rfl
    have p2 := H2.out.cell (i := 2) rfl
    have p3 := H2.out.cell (i := 3) rfl
    have q0 := H3.out.cell (i := 0) rfl
    have q1 := H3.out.cell (i := 1) rfl
    have q2 := H3.out.cell (i := 2) rfl
    have q3 := H3.out.cell (i := 3) rfl
    have r0 := H4.out.cell (i := 0) rfl
    have r1 := H4.out.cell (i := 1) rfl
    have r2 := H4.out.cell (i := 2) rfl
    have r3 := H4.out.cell (i := 3) rfl
    simp at p0 p1 p2 p3 q0 q1 q2 q3 r0 r1 r2 r3
    go_wp2_with fail
    go_ret
    exact ⟨rfl, HB.out⟩
end Go.Proofs.Ythmkmjoeceghiaa
