/- HeapPlays. -/
import Derived.Test.YthmkmjoeceghiaaAE
import Derived.Test.YthmkmjoeceghiaaTT
namespace Go.Proofs.Ythmkmjoeceghiaa
open Go.RowKit

attribute [local go_sem ↓] Go.wp_at_zero Go.wp_at_succ
theorem Hp.grownR {w w' : World} {B M n R : Nat} {S : List Ob} {cs : Array Value} (h : Hp w B M n S) (hR : Blk w R cs 96) (hg : w.grownBy w' (some R)) : Hp w' B M n S := by
  obtain ⟨D, hD, hh⟩ := h.map
  have h1 : some B ≠ some R := fun e => by
    cases e
    have h1 := h.bB; unfold Blk at h1 hR; rw [h1] at hR; simp at hR
  have h2 : some M ≠ some R := fun e => by
    cases e
    obtain ⟨es, cl, hM, _⟩ := hD
    unfold Blk at hR; rw [hM] at hR; cases hR
  exact ⟨(hg.block B h.bB.lt h1).trans h.bB, ⟨D, hD.kept hg h2, hh⟩, h.wf⟩
theorem Rh.grownM {w w' : World} {B M n b0 R : Nat} {S T : List Ob} (h : Rh w b0 R S) (hp : Hp w B M n T) (hg : w.grownBy w' (some M)) : Rh w' b0 R S := by
  obtain ⟨v, h1, h2⟩ := h.val
  obtain ⟨D, ⟨es, cl, hM, _⟩, hh⟩ := hp.map
  have e1 : some R ≠ some M := fun e => by cases e; unfold Blk at h1; rw [hM] at h1; cases h1
  refine ⟨h.hB, v, (hg.block R h1.lt e1).trans h1, h2.kept hg (.inr fun e => ?_)⟩
  rcases h2.2 with ⟨rfl, _⟩ | ⟨g', cap, cur, rfl, _, hh', _⟩
  · cases e
  · obtain rfl : g' = M := by simpa [Value.ownBlock] using e
    rw [hM] at hh'; cases hh'
theorem Rh.blk {w : World} {b0 R : Nat} {S : List Ob} (h : Rh w b0 R S) : ∃ v, Blk w R #[v] 96 := by obtain ⟨v, h1, _⟩ := h.val; exact ⟨v, h1⟩
theorem flat_get {S : List Ob} {k : Nat} {o : Ob} (h : S[k]? = some o) : (S.flatMap obCells)[k * 3]? = some (.int .i64 o.1) ∧ (S.flatMap obCells)[k * 3 + 1]? = some (.int .i64 o.2.1) ∧ (S.flatMap obCells)[k * 3 + 2]? = some (.int .i64 o.2.2) :=
  ⟨flatOb_at S k o h 0 (by omega), flatOb_at S k o h 1 (by omega), flatOb_at S k o h 2 (by omega)⟩
def Rest3 (S : List Ob) (j : Nat) (xa : List Value) : Prop := ∀ t, j * 3 ≤ t → xa[t]? = (S.flatMap obCells)[t]?
theorem Rest3.step {S : List Ob} {j : Nat} {xa : List Value} (h : Rest3 S j xa) (v : Value) : Rest3 S (j + 1) (xa.set (j * 3 + 2) v) := fun t ht => by
  rw [List.getElem?_set_ne (by omega)]; exact h t (by omega)
set_option maxRecDepth 100000 in
set_option maxHeartbeats 4000000 in
theorem heapplays_any (l : List Dd) (a : Option Addr) (cap : Nat) (w : World) (hl : l.length < 5000000000000) (hw : WfD l) (hI : IsDeeds w a l) :
    Calls Try.prog 15 #[.slice a l.length cap] w fun e w' => e = .returned (.bool true) ∧ Below w.heap.size w w' := by
  have HI := Lib.hid hI
  have HWF := Lib.hid hw
  have hlm : l.length ≤ 9223372036854775807 := by omega
  obtain ⟨n, hn⟩ : ∃ n, n = min l.length 150 := ⟨_, rfl⟩
  have hn1 : n ≤ l.length := by omega
  have hn2 : n ≤ 150 := by omega
  have hn3 : n < 150 → l.length ≤ n := by omega
  clear hI hw hn
  go_enter Try.func15, Try.ntmps15
  go_wp2_with fail
  refine (new_any w).mono ?_
  rintro e w1 ⟨rfl, hH, hb⟩
  have H1 := Lib.hid hH
  have B1 := Lib.hid hb
  clear hH hb
  go_wp2_with fail
  refine (rnew_any w1).mono ?_
  rintro e w2 ⟨rfl, hR, hb⟩
  have R2 := Lib.hid hR
  have H2 := Lib.hid (H1.out.below hb)
  have B2 := Lib.hid (on2 B1.out hb)
  have hr1 := B1.out.size
  clear hR hb H1
  generalize w1.heap.size = R at R2 hr1 ⊢
  obtain ⟨M, hM⟩ : ∃ M, M = w.heap.size := ⟨_, rfl⟩
  have hMl : w.heap.size ≤ M := by omega
  rw [← hM] at H2 ⊢
  clear hM B1
  go_wp2_with fail
  go_loopw [5] (fun iv wr => ∃ (k : Nat) (S : List Ob), k ≤ n ∧ iv = .int .i64 k ∧ Hp wr (M + 1) M k S ∧ Rh wr R R S ∧ Up S ∧ S.length ≤ k ∧ Below w.heap.size w wr) (fun iv _ => n - (intOf iv).toNat)
  case atStart => exact ⟨0, [], Nat.zero_le _, rfl, H2.out, R2.out, upNil, Nat.le_refl _, B2.out⟩
  case round =>
    clear H2 B2 R2
    obtain ⟨k, S, hk, rfl, hH, hR, hU, hSl, hB⟩ := hrel
    have HH := Lib.hid hH
    have RR := Lib.hid hR
    have HU := Lib.hid hU
    have BB := Lib.hid hB
    clear hH hR hU hB
    by_cases hlt : k < n
    · obtain ⟨⟨x0, o0, o1, o2⟩, hx⟩ : ∃ x, l[k]? = some x := ⟨_, List.getElem?_eq_getElem (by omega)⟩
      obtain ⟨g, off, rfl, hc⟩ := (HI.out.below BB.out) (by intro e; rw [e] at hx; simp at hx)
      obtain ⟨d0, d1, d2, d3⟩ := hc k _ hx
      have hwo := HWF.out _ (List.mem_of_getElem? hx)
      have WO := Lib.hid hwo
      have HX := Lib.hid hx
      have HNE := Lib.hid (show l ≠ [] from by intro e; rw [e] at hx; simp at hx)
      have i0' : (0 : Int) ≤ (k : Int) := by omega
      have i1 : (k : Int) < (l.length : Int) := by omega
      have i80 : (k : Int) < 150 := by omega
      obtain ⟨E, hE⟩ : ∃ E, E = doE S (x0, o0, o1, o2) := ⟨_, rfl⟩
      obtain ⟨T, hT⟩ : ∃ T, T = doS S (x0, o0, o1, o2) := ⟨_, rfl⟩
      have hTl := len_doS S (x0, o0, o1, o2)
      have hTU := doS_up HU.out (x0, o0, o1, o2)
      have hdo := fun W (h : Hp W (M + 1) M k S) => do_any (M + 1) M k S (x0, o0, o1, o2) W h hwo (by unfold maxLen; omega)
      have hrdo := fun W (h : Rh W R R S) (hw0 : R ≤ W.heap.size) => rdo_any R R S (x0, o0, o1, o2) W h hw0 (by omega)
      rw [← hE, ← hT] at hdo hrdo
      rw [← hT] at hTl hTU
      have DO := Lib.hid hdo
      have RDO := Lib.hid hrdo
      have TU := Lib.hid hTU
      dsimp only at d0 d1 d2 d3
      clear hx hc hdo hrdo hE hT hTU hwo
      go_wp2_with fail
      have hHB : (fun w' : World => w'.cell? ⟨g, off + k * 4, none⟩ = some (.int .i64 x0) ∧ w'.cell? ⟨g, off + k * 4 + 1, none⟩ = some (.int .i64 o0) ∧ w'.cell? ⟨g, off + k * 4 + 2, none⟩ = some (.int .i64 o1) ∧ w'.cell? ⟨g, off + k * 4 + 3, none⟩ = some (.int .i64 o2)) wr.drew := ⟨d0, d1, d2, d3⟩
      have KC := Lib.hid (show ∀ W : World, Below w.heap.size w W → W.cell? ⟨g, off + k * 4, none⟩ = some (.int .i64 x0) ∧ W.cell? ⟨g, off + k * 4 + 1, none⟩ = some (.int .i64 o0) ∧ W.cell? ⟨g, off + k * 4 + 2, none⟩ = some (.int .i64 o1) ∧ W.cell? ⟨g, off + k * 4 + 3, none⟩ = some (.int .i64 o2) from fun W hb => by
        obtain ⟨g', off', he, hc⟩ := (HI.out.below hb) HNE.out
        obtain ⟨rfl, rfl⟩ : g = g' ∧ off = off' := by simpa using he
        exact hc k _ HX.out)
      have hRl : R < wr.heap.size := by obtain ⟨v, hv⟩ := RR.out.blk; exact hv.lt
      refine till_start 12 (fun w' : World => w'.cell? ⟨g, off + k * 4, none⟩ = some (.int .i64 x0) ∧ w'.cell? ⟨g, off + k * 4 + 1, none⟩ = some (.int .i64 o0) ∧ w'.cell? ⟨g, off + k * 4 + 2, none⟩ = some (.int .i64 o1) ∧ w'.cell? ⟨g, off + k * 4 + 3, none⟩ = some (.int .i64 o2)) (by kernel_rfl) ?_
      clear d0 d1 d2 d3
      have BW := Lib.hid (show Below w.heap.size w wr.drew from BB.out.drew)
      have HW := Lib.hid (HH.out.below (Below.refl _ wr).drew)
      have RW := Lib.hid (RR.out.below (Below.refl _ wr).drew)
      have hRl4 : R ≤ wr.drew.heap.size := by show R ≤ wr.heap.size; omega
      generalize wr.drew = w4 at *
      clear HH RR BB hRl
      refine till_take (i := 0) (v := ?_) rfl (by kernel_rfl) (by kernel_rfl) (by kernel_rfl) (by kernel_rfl) (fun _ _ _ h => h) (Or.inl ⟨by rfl, ?_⟩) hHB ?_
      rotate_left
      · (intro w hSw; (try dsimp only at hSw); go_simp; try with_reducible rfl)
      try simp only [Act.put, List.setIfInBounds_toArray, List.set_cons_zero, List.set_cons_succ]
      refine till_take (i := 1) (v := ?_) rfl (by kernel_rfl) (by kernel_rfl) (by kernel_rfl) (by kernel_rfl) (fun _ _ _ h => h) (Or.inl ⟨by rfl, ?_⟩) hHB ?_
      rotate_left
      · (intro w hSw; (try dsimp only at hSw); go_simp; try with_reducible rfl)
      try simp only [Act.put, List.setIfInBounds_toArray, List.set_cons_zero, List.set_cons_succ]
      refine till_take (i := 2) (v := ?_) rfl (by kernel_rfl) (by kernel_rfl) (by kernel_rfl) (by kernel_rfl) (fun _ _ _ h => h) (Or.inl ⟨by rfl, ?_⟩) hHB ?_
      rotate_left
      · (intro w hSw; (try dsimp only at hSw); go_simp; try with_reducible rfl)
      try simp only [Act.put, List.setIfInBounds_toArray, List.set_cons_zero, List.set_cons_succ]
      refine till_take (i := 3) (v := ?_) rfl (by kernel_rfl) (by kernel_rfl) (by kernel_rfl) (by kernel_rfl) (fun _ _ _ h => h) (Or.inl ⟨by rfl, ?_⟩) hHB ?_
      rotate_left
      · (intro w hSw; (try dsimp only at hSw); go_simp; try with_reducible rfl)
      try simp only [Act.put, List.setIfInBounds_toArray, List.set_cons_zero, List.set_cons_succ]
      refine till_take (i := 4) (v := ?_) rfl (by kernel_rfl) (by kernel_rfl) (by kernel_rfl) (by kernel_rfl) (fun _ _ _ h => h) (Or.inl ⟨by rfl, ?_⟩) hHB ?_
      rotate_left
      · (intro w hSw; (try dsimp only at hSw); go_simp; try with_reducible rfl)
      try simp only [Act.put, List.setIfInBounds_toArray, List.set_cons_zero, List.set_cons_succ]
      refine till_take (i := 6) (v := ?_) rfl (by kernel_rfl) (by kernel_rfl) (by kernel_rfl) (by kernel_rfl) (fun _ _ _ h => h) (Or.inl ⟨by rfl, ?_⟩) hHB ?_
      rotate_left
      · (intro w hSw; (try dsimp only at hSw); go_simp; try with_reducible rfl)
      try simp only [Act.put, List.setIfInBounds_toArray, List.set_cons_zero, List.set_cons_succ]
      refine till_take (i := 7) (v := ?_) rfl (by kernel_rfl) (by kernel_rfl) (by kernel_rfl) (by kernel_rfl) (fun _ _ _ h => h) (Or.inl ⟨by rfl, ?_⟩) hHB ?_
      rotate_left
      · (intro w hSw; (try dsimp only at hSw); go_simp; try with_reducible rfl)
      try simp only [Act.put, List.setIfInBounds_toArray, List.set_cons_zero, List.set_cons_succ]
      refine till_take (i := 8) (v := ?_) rfl (by kernel_rfl) (by kernel_rfl) (by kernel_rfl) (by kernel_rfl) (fun _ _ _ h => h) (Or.inl ⟨by rfl, ?_⟩) hHB ?_
      rotate_left
      · (intro w hSw; (try dsimp only at hSw); go_simp; try with_reducible rfl)
      try simp only [Act.put, List.setIfInBounds_toArray, List.set_cons_zero, List.set_cons_succ]
      refine till_take (i := 9) (v := ?_) rfl (by kernel_rfl) (by kernel_rfl) (by kernel_rfl) (by kernel_rfl) (fun _ _ _ h => h) (Or.inl ⟨by rfl, ?_⟩) hHB ?_
      rotate_left
      · (intro w hSw; (try dsimp only at hSw); go_simp; try with_reducible rfl)
      try simp only [Act.put, List.setIfInBounds_toArray, List.set_cons_zero, List.set_cons_succ]
      refine till_take (i := 10) (v := ?_) rfl (by kernel_rfl) (by kernel_rfl) (by kernel_rfl) (by kernel_rfl) (fun _ _ _ h => h) (Or.inl ⟨by rfl, ?_⟩) hHB ?_
      rotate_left
      · (intro w hSw; (try dsimp only at hSw); go_simp; try with_reducible rfl)
      try simp only [Act.put, List.setIfInBounds_toArray, List.set_cons_zero, List.set_cons_succ]
      refine till_one (i := 5) (by kernel_rfl) rfl (fun K hK => ?_)
      go_simp
      refine (DO.out w4 HW.out).mono ?_
      rintro e w5 ⟨rfl, hH5, hg5⟩
      have R5 := Lib.hid (RW.out.grownM HW.out hg5)
      have H5 := Lib.hid hH5
      have B5 := Lib.hid (BW.out.grown hg5 BW.out.size (fun k e => by cases e; exact hMl))
      have hs5 := hg5.size
      clear hH5 hg5
      try go_wp2_with fail
      refine hK.out _ _ (fun _ => KC.out _ B5.out) ?_
      clear hK K
      try simp only [Act.put, List.setIfInBounds_toArray, List.set_cons_zero, List.set_cons_succ]
      refine till_one (i := 11) (by kernel_rfl) rfl (fun K hK => ?_)
      go_simp
      refine (RDO.out w5 R5.out (by omega)).mono ?_
      rintro e w6 ⟨rfl, hR6, hg6⟩
      have H6 := Lib.hid (H5.out.grownR (Classical.choose_spec R5.out.blk) hg6)
      have R6 := Lib.hid hR6
      have B6 := Lib.hid (B5.out.grown hg6 B5.out.size (fun k e => by cases e; omega))
      clear hR6 hg6
      try go_wp2_with fail
      refine hK.out _ _ (fun _ => KC.out _ B6.out) ?_
      clear hK K
      try simp only [Act.put, List.setIfInBounds_toArray, List.set_cons_zero, List.set_cons_succ]
      refine till_one (i := 12) (by kernel_rfl) rfl (fun K hK => ?_)
      go_simp
      refine hK.out _ _ (fun h => absurd rfl h) ?_
      clear hK K
      try simp only [Act.put, List.setIfInBounds_toArray, List.set_cons_zero, List.set_cons_succ]
      refine till_done (by kernel_rfl) ?_ _
      clear HW RW BW R5 H5 B5 hHB DO RDO
      go_wp2_with fail
      refine (out_any (M + 1) M (k + 1) T w6 H6.out TU.out (by omega) (by omega)).mono ?_
      rintro e w7 ⟨va, rfl, hOa, hb7⟩
      obtain ⟨aa, ca, rfl, hca1, hca2⟩ := owns_form hOa
      have OA := Lib.hid hOa
      have H7 := Lib.hid (H6.out.below hb7)
      have R7 := Lib.hid (R6.out.below hb7)
      have B7 := Lib.hid (on2 B6.out hb7)
      have B67 := Lib.hid hb7
      clear hOa hb7
      go_wp2_with fail
      refine (rout_any R R T w7 R7.out (by omega)).mono ?_
      rintro e wr ⟨vb, rfl, hOb, hb8⟩
      obtain ⟨ab, cb, rfl, hcb1, hcb2⟩ := owns_form hOb
      have OB := Lib.hid hOb
      have HDF := Lib.hid (show ∀ ga gb, aa = some ⟨ga, 0, none⟩ → ab = some ⟨gb, 0, none⟩ → gb ≠ ga from fun ga gb h1 h2 => by
        subst h1 h2
        have p1 := OA.out.lt ga rfl
        have p2 := hOb.lt gb rfl
        omega)
      have OA8 := Lib.hid (owns_below OA.out hb8)
      have hs67 := B7.out.size
      have H8 := Lib.hid (H7.out.below hb8)
      have R8 := Lib.hid (R7.out.below hb8)
      have B8 := Lib.hid (on2 B7.out hb8)
      have B68 := Lib.hid (on2 B67.out hb8)
      clear hOb hb8 H7 R7 OA B7 B67
      unfold maxLen at hca2 hcb2
      obtain ⟨d0, d1, d2, d3⟩ := KC.out _ B8.out
      have k0 := fun d os => cell_regrown d0 d os
      have k1 := fun d os => cell_regrown d1 d os
      have k2 := fun d os => cell_regrown d2 d os
      have k3 := fun d os => cell_regrown d3 d os
      have hTm : T.length ≤ 5000000000000 := by omega
      have HT8 := fun W hb => has_any (M + 1) M (k + 1) T (o0, o1, o2) W (H8.out.below hb) WO.out
      have RT8 := fun W hb => rhas_any R R T (o0, o1, o2) W (R8.out.below hb) (by unfold maxLen; omega)
      have MT8 := fun W hb => many_any (M + 1) M (k + 1) T o0 W (H8.out.below hb) (by omega) TU.out.nodup
      have NT8 := fun W hb => rmany_any R R T o0 W (R8.out.below hb) (by omega)
      obtain ⟨mb, hmb⟩ : ∃ mb, mb = decide ((o0, o1, o2) ∈ T) := ⟨_, rfl⟩
      obtain ⟨mn, hmn⟩ : ∃ mn : Int, mn = manyL T o0 := ⟨_, rfl⟩
      rw [← hmb] at HT8 RT8
      rw [← hmn] at MT8 NT8
      clear hmb hmn
      go_wp2_with fail
      refine wp_region_quiet_below (by kernel_rfl) (by kernel_rfl) ?_
      repeat (quiet_step (first | (go_at_call 24; exact Calls.regrown_of (HT8 _ (below_regrown wr _ _)))|(go_at_call 41; exact Calls.regrown_of (RT8 _ (below_regrown wr _ _)))|(go_at_call 25; exact Calls.regrown_of (MT8 _ (below_regrown wr _ _)))|(go_at_call 42; exact Calls.regrown_of (NT8 _ (below_regrown wr _ _)))))
      refine wpQuiet_nil ?_
      intro _ hw'
      obtain ⟨⟨dq, osq⟩, hw''⟩ := hw'
      subst hw''
      have hbq : Below wr.heap.size wr (Go.Sort.grow (redrawn wr dq) osq) := below_regrown wr dq osq
      dsimp only
      generalize Go.Sort.grow (redrawn wr dq) osq = wq at hbq ⊢
      clear k0 k1 k2 k3 HT8 RT8 MT8 NT8 d0 d1 d2 d3
      have BQ := Lib.hid (on2 B68.out hbq)
      have OAQ := Lib.hid (owns_below OA8.out hbq)
      have OBQ := Lib.hid (owns_below OB.out hbq)
      have RST := Lib.hid (show Rest3 T 0 (T.flatMap obCells) from fun _ _ => rfl)
      clear hbq OA8 OB B8 H8 R8 B68
      go_wp2_with fail
      go_loopw [8] (fun jv wx => ∃ (j : Nat) (xa : List Value), j ≤ T.length ∧ jv = .int .i64 j ∧ wx.ownsRow w6.heap.size 30 3 (.slice aa T.length ca) T.length xa ∧ Rest3 T j xa ∧ wx.ownsRow w7.heap.size 30 3 (.slice ab T.length cb) T.length (T.flatMap obCells) ∧ Below w6.heap.size w6 wx) (fun jv _ => T.length - (intOf jv).toNat)
      case atStart => exact ⟨0, _, Nat.zero_le _, rfl, OAQ.out, RST.out, OBQ.out, BQ.out⟩
      case round =>
        clear OAQ RST OBQ BQ
        obtain ⟨j, xa, hj, rfl, hA, hR3, hB3, hBx⟩ := hrel
        have OX := Lib.hid hA
        have RX := Lib.hid hR3
        have OY := Lib.hid hB3
        have BX := Lib.hid hBx
        clear hA hR3 hB3 hBx
        by_cases hjl : j < T.length
        · obtain ⟨⟨p0, p1, p2⟩, hp⟩ : ∃ p, T[j]? = some p := ⟨_, List.getElem?_eq_getElem hjl⟩
          obtain ⟨gb, rfl, q0, q1, q2⟩ := ob_cells OY.out hp rfl
          obtain ⟨ga, c', hv, _, _⟩ := OX.out.form (by omega)
          obtain ⟨rfl, rfl⟩ : aa = some ⟨ga, 0, none⟩ ∧ ca = c' := by injection hv with h1 _ h3; exact ⟨h1, h3⟩
          obtain ⟨f0, f1, f2⟩ := flat_get hp
          have r0 := (OX.out.cellAt (j * 3) (by omega)).trans ((RX.out _ (by omega)).trans f0)
          have r1 := (OX.out.cellAt (j * 3 + 1) (by omega)).trans ((RX.out _ (by omega)).trans f1)
          have r2 := (OX.out.cellAt (j * 3 + 2) (by omega)).trans ((RX.out _ (by omega)).trans f2)
          have rf := OX.out.frozenAt (j * 3 + 2)
          have hne := HDF.out ga gb rfl rfl
          have lga := (OX.out.lt ga rfl).1
          have hq := neq30 (x := (p0, p1, p2)) (y := (p0, p1, p2)) false (by simp)
          have j0 : (0 : Int) ≤ (j : Int) := by omega
          have j1 : (j : Int) < (T.length : Int) := by omega
          dsimp only at q0 q1 q2 r0 r1 r2 hq
          clear hv hp f0 f1 f2
          go_wp2_with fail
          go_quiet (fail)
          clear hq q0 q1 q2
          have hbd : Below wr.heap.size wr (wr.drewN nq) := below_drewN (Below.refl _ _) nq
          have OX2 := Lib.hid ((owns_below OX.out hbd).stored (j * 3 + 2) (.int .i64 (-7))).1
          have OY2 := Lib.hid (ownsRow_setCell_other (a := ⟨ga, j * 3 + 2, none⟩) (owns_below OY.out hbd) (by simpa [Value.ownBlock] using hne) (.int .i64 (-7)))
          have BX2 := Lib.hid ((on2 BX.out hbd).setCell (p := ⟨ga, j * 3 + 2, none⟩) lga (.int .i64 (-7)))
          clear hbd hne
          go_wp2_with fail
          go_roundw
          case rel => exact ⟨j + 1, _, by omega, by go_num, OX2.out, RX.out.step _, OY2.out, BX2.out⟩
          case measure => simp [intOf]; omega
        · obtain rfl : j = T.length := by omega
          have H9 := Lib.hid (H6.out.below BX.out)
          have R9 := Lib.hid (R6.out.below BX.out)
          have B9 := Lib.hid (on2 B6.out BX.out)
          clear OX RX OY BX H6 R6 B6
          go_wp2_with fail
          go_roundw
          case rel => exact ⟨k + 1, T, by omega, by go_num, H9.out, R9.out, TU.out, by omega, B9.out⟩
          case measure => simp [intOf]; omega
    · obtain rfl : k = n := by omega
      have BX := Lib.hid BB.out
      clear HH RR BB
      by_cases hlk : (k : Int) < (l.length : Int)
      · have hk100 : ¬ (k : Int) < 150 := by omega
        go_wp2_with fail
        refine (works_any _).mono ?_
        rintro e w4 ⟨rfl, hb4⟩
        have B6 := Lib.hid (on2 BX.out hb4)
        clear hb4
        go_wp2_with fail
        go_ret
        exact ⟨rfl, B6.out⟩
      · go_wp2_with fail
        refine (works_any _).mono ?_
        rintro e w4 ⟨rfl, hb4⟩
        have B6 := Lib.hid (on2 BX.out hb4)
        clear hb4
        go_wp2_with fail
        go_ret
        exact ⟨rfl, B6.out⟩
end Go.Proofs.Ythmkmjoeceghiaa
