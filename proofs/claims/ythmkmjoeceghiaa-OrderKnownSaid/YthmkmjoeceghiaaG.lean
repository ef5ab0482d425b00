/- The reference's heap: put and drop. -/
import Derived.Test.YthmkmjoeceghiaaF
import Derived.Lib.QuietBelow
namespace Go.Proofs.Ythmkmjoeceghiaa
open Go.RowKit

attribute [local go_sem ↓] Go.wp_at_zero Go.wp_at_succ
theorem info30 : (Try.prog.info? 30).map (fun i => (i.zero, i.size, i.bytes)) = some (some (.agg #[.int .i64 0, .int .i64 0, .int .i64 0]), 3, 24) := by kernel_rfl
theorem take_dropW {S : List Ob} {o : Ob} {k : Nat} (hk : k ≤ S.length) (h : ∀ j x, j < k → S[j]? = some x → ahead x o = true) (hs : ∀ x, S[k]? = some x → ahead x o = false) : putL S o = S.take k ++ o :: S.drop k := by
  have e : S.takeWhile (fun x => ahead x o) = S.take k ∧ S.dropWhile (fun x => ahead x o) = S.drop k := by
    induction S generalizing k with
    | nil => simp
    | cons y S ih =>
      cases k with
      | zero =>
        have := hs y rfl
        simp [this]
      | succ k =>
        have h0 := h 0 y (by omega) rfl
        have := ih (k := k) (by simpa using hk) (fun j x hj hx => h (j + 1) x (by omega) (by simpa using hx)) (fun x hx => hs x (by simpa using hx))
        simp [h0, this.1, this.2]
  unfold putL
  rw [e.1, e.2]
theorem take_len {α : Type} {l : List α} {k : Nat} (h : k ≤ l.length) : (l.take k).length = k := by rw [List.length_take]; omega

theorem flat_drop (l : List Ob) (k : Nat) : (l.drop k).flatMap obCells = (l.flatMap obCells).drop (k * 3) := by
  induction l generalizing k with
  | nil => simp
  | cons x l ih =>
    cases k with
    | zero => simp
    | succ k =>
      rw [List.drop_succ_cons, ih, List.flatMap_cons, List.drop_append]
      have hx : (obCells x).length = 3 := rfl
      have e0 := List.drop_eq_nil_of_le (show (obCells x).length ≤ (k + 1) * 3 by rw [hx]; omega)
      rw [e0, hx, show (k + 1) * 3 - 3 = k * 3 by omega]; rfl
theorem ob_one {l : List Ob} : ∀ v ∈ l.flatMap obCells, v.oneCell' = true := by
  intro v hv
  simp only [List.mem_flatMap, obCells] at hv
  obtain ⟨x, _, h⟩ := hv
  simp at h
  rcases h with rfl | rfl | rfl <;> rfl
theorem ob_len (l : List Ob) : (l.flatMap obCells).length = l.length * 3 := by
  induction l with
  | nil => rfl
  | cons x l ih => rw [List.flatMap_cons, List.length_append, ih]; simp [obCells]; omega
theorem put_fin {w W w2 : World} {b0 B n : Nat} {v0 v2 : Value} {xs : List Value} {S' : List Ob} (HW : Below w.heap.size w W) (hB2 : Below W.heap.size W w2) (BB : Blk W B #[v0] 96) (hown2 : w2.ownsRow W.heap.size 30 3 v2 n xs) (hb0 : b0 ≤ B) (hw0 : b0 ≤ w.heap.size)
    (hn : n = S'.length) (hx : xs = S'.flatMap obCells) : Rh (w2.setCell ⟨B, 0, none⟩ v2) b0 B S' ∧ w.grownBy (w2.setCell ⟨B, 0, none⟩ v2) (some B) := by
  subst hn hx
  have hBl := BB.lt
  have h1 := BB.below hB2
  have hg : w2.grownBy (w2.setCell ⟨B, 0, none⟩ v2) (some B) := ⟨rfl, rfl, rfl, by simp, fun i _ hn => Below.heap_setCell _ _ _ _ (fun e => hn (by rw [e]))⟩
  refine ⟨⟨hb0, v2, ?_, ?_⟩, grown_trans (grown_of_below (HW.trans (hB2.mono HW.size)) (some B)) hg⟩
  · unfold Blk at h1 ⊢
    exact heap_setCell_same w2 B 0 _ _ v2 h1
  · refine (owns_mono hown2 (by have := HW.size; omega)).kept hg ?_
    cases hv : v2.ownBlock with
    | none => exact .inl rfl
    | some g => right; intro e; have := (hown2.lt g hv).1; cases e; omega
set_option maxRecDepth 100000 in
set_option maxHeartbeats 1000000 in
theorem put_any (b0 B : Nat) (S : List Ob) (o : Ob) (w : World) (h : Rh w b0 B S) (hw0 : b0 ≤ w.heap.size) (hl : S.length < 5000000000000) :
    Calls Try.prog 67 #[.pointer (some ⟨B, 0, none⟩), obV o] w fun e w' => (∃ v, e = .returned v) ∧ Rh w' b0 B (putL S o) ∧ w.grownBy w' (some B) := by
  have hal : Below w.heap.size w (w.alloc (.cells #[.int .i64 o.1, .int .i64 o.2.1, .int .i64 o.2.2] 30)) := (by repeat (first | exact Below.refl _ _ | assumption | refine Below.setCell ?_ (by first | omega | (simp; done) | (simp; omega)) _ | refine Below.drew ?_ | refine Below.alloc ?_ (by first | omega | (simp; done) | (simp; omega)) _ | refine Below.trans ?_ (Below.mono (by assumption) (by first | omega | (simp; done) | (simp; omega)))))
  obtain ⟨i0, hi, hz0, hz1, hz2⟩ := info_parts info30
  obtain ⟨v, h1, h2⟩ := h.val
  obtain ⟨a, cap, rfl, hcl, hcm⟩ := owns_form h2
  have T := Blk.new w #[.int .i64 o.1, .int .i64 o.2.1, .int .i64 o.2.2] 30
  have t0 := Lib.hid (T.cell (i := 0) rfl)
  have t1 := Lib.hid (T.cell (i := 1) rfl)
  have t2 := Lib.hid (T.cell (i := 2) rfl)
  have BB := Lib.hid (h1.below hal)
  have O1 := Lib.hid (owns_below h2 hal)
  have HW := Lib.hid hal
  have HRH := Lib.hid h.hB
  have hlm : S.length ≤ 9223372036854775807 := by omega
  clear hal h1 h2 T h
  go_enter Try.func67, Try.ntmps67
  go_wp2_with fail
  generalize w.alloc (.cells #[.int .i64 o.1, .int .i64 o.2.1, .int .i64 o.2.2] 30) = W at *
  go_loopw [4, 5] (fun v i wr => ∃ k : Nat, k ≤ S.length ∧ i = .int .i64 k ∧ (∀ j x, j < k → S[j]? = some x → ahead x o = true) ∧ wr.ownsRow W.heap.size 30 3 v k ((S.take k).flatMap obCells) ∧ Below W.heap.size W wr) (fun _ i _ => S.length - (intOf i).toNat)
  case atStart => exact ⟨0, Nat.zero_le _, rfl, fun j x hj => by omega, World.ownsRow_nil _ _ _ _, Below.refl _ _⟩
  case round =>
    obtain ⟨k, hk, rfl, hN, hO, hb⟩ := hrel
    have AH := Lib.hid hN
    have HB := Lib.hid hb
    have OU := Lib.hid hO
    have c0 := below_cell hb (Nat.le_refl _) (BB.out.cell (i := 0) rfl)
    have s0 := below_cell hb (Nat.le_refl _) t0.out
    have s1 := below_cell hb (Nat.le_refl _) t1.out
    have s2 := below_cell hb (Nat.le_refl _) t2.out
    simp at c0 s0 s1 s2
    have k0 := fun d os => cell_regrown c0 d os
    have k1 := fun d os => cell_regrown s0 d os
    have k2 := fun d os => cell_regrown s1 d os
    have k3 := fun d os => cell_regrown s2 d os
    clear hN hb hO
    by_cases hlt : k < S.length
    · obtain ⟨x, hx⟩ : ∃ x, S[k]? = some x := ⟨_, List.getElem?_eq_getElem hlt⟩
      obtain ⟨g, rfl, d0, d1, d2⟩ := ob_cells O1.out hx rfl
      replace d0 := below_cell HB.out (Nat.le_refl _) d0
      replace d1 := below_cell HB.out (Nat.le_refl _) d1
      replace d2 := below_cell HB.out (Nat.le_refl _) d2
      have k4 := fun d os => cell_regrown d0 d os
      have k5 := fun d os => cell_regrown d1 d os
      have k6 := fun d os => cell_regrown d2 d os
      have HX := Lib.hid hx
      have i0' : (0 : Int) ≤ (k : Int) := by omega
      have i1 : (k : Int) < (S.length : Int) := by omega
      clear hx
      by_cases hxo : ahead x o = true
      · go_wp2_with fail
        refine wp_region_quiet_below (by kernel_rfl) (by kernel_rfl) ?_
        repeat (quiet_step (first | (go_at_call 75; exact Calls.regrown_of (ahead_any x o _))))
        refine wpQuiet_nil ?_
        intro _ hw'
        obtain ⟨⟨dq, osq⟩, hw''⟩ := hw'
        subst hw''
        have hbq : Below wr.heap.size wr (Go.Sort.grow (redrawn wr dq) osq) := below_regrown wr dq osq
        dsimp only
        generalize Go.Sort.grow (redrawn wr dq) osq = wq at hbq ⊢
        clear k0 k1 k2 k3 k4 k5 k6
        replace c0 := below_cell hbq (Nat.le_refl _) c0
        replace d0 := below_cell hbq (Nat.le_refl _) d0
        replace d1 := below_cell hbq (Nat.le_refl _) d1
        replace d2 := below_cell hbq (Nat.le_refl _) d2
        have OQ := owns_below OU.out hbq
        have BQ := on2 HB.out hbq
        have hbs := BQ.size
        clear s0 s1 s2
        go_wp2_with (at_builtin; refine wpList_append_own _ rfl _ _ 37 rfl W.heap.size 30 i0 _ 3 24 Try.underlying37 hi hz0 hz1 hz2 rfl (by omega) _ _ _ rfl (OQ.alloc _) ⟨wq.heap.size, 0, none⟩ 1 1 (obCells x) rfl rfl (World.news_of_block (cs := #[.int .i64 x.1, .int .i64 x.2.1, .int .i64 x.2.2]) (t := 30) (fr := (0, 0)) (heap_alloc_new wq _)) (by simp [Value.oneCell', obCells]) (by unfold maxLen; omega) (by omega) (by simp; omega) ?_; intro v' w1 hown' hgrow _)
        have hB1 : Below W.heap.size W w1 := (BQ.alloc BQ.size _).grown hgrow (by simp; omega) (fun g e => (OQ.lt g e).1)
        refine ⟨⟨k + 1, by omega, by go_num, fun j y hj hy => ?_, ?_, hB1⟩, by simp [intOf]; omega⟩
        · by_cases e : j = k
          · rw [e, HX.out] at hy; cases hy; exact hxo
          · exact AH.out j y (by omega) hy
        · rw [take_succ HX.out, List.flatMap_append]
          simpa using hown'
      · have hxf : ahead x o = false := by simpa using hxo
        have PL := Lib.hid (take_dropW hk AH.out (fun y hy => by rw [HX.out] at hy; cases hy; exact hxf))
        clear hxo
        go_wp2_with fail
        refine wp_region_quiet_below (by kernel_rfl) (by kernel_rfl) ?_
        repeat (quiet_step (first | (go_at_call 75; exact Calls.regrown_of (ahead_any x o _))))
        refine wpQuiet_nil ?_
        intro _ hw'
        obtain ⟨⟨dq, osq⟩, hw''⟩ := hw'
        subst hw''
        have hbq : Below wr.heap.size wr (Go.Sort.grow (redrawn wr dq) osq) := below_regrown wr dq osq
        dsimp only
        generalize Go.Sort.grow (redrawn wr dq) osq = wq at hbq ⊢
        clear k0 k1 k2 k3 k4 k5 k6 d0 d1 d2
        have O2 := Lib.hid O1.out
        have OQ := owns_below OU.out hbq
        have BQ := on2 HB.out hbq
        have hbs := BQ.size
        replace s0 := below_cell hbq (Nat.le_refl _) s0
        replace s1 := below_cell hbq (Nat.le_refl _) s1
        replace s2 := below_cell hbq (Nat.le_refl _) s2
        clear c0
        have hcB := BB.out.cell (i := 0) rfl
        have hfB := BB.out.frozen 0
        have hBl := BB.out.lt
        have G1 := Lib.hid (fun (w1 : World) (h : Below W.heap.size W w1) => below_cell h (Nat.le_refl _) hcB)
        have G2 := Lib.hid (fun (w1 : World) (h : Below W.heap.size W w1) => (h.frozen (p := ⟨B, 0, none⟩) hBl).trans hfB)
        clear hcB hfB
        have hck : ¬ cap = k := by omega
        have hnw : ∀ w1, Below W.heap.size W w1 → ∀ j u, ((S.drop k).flatMap obCells)[j]? = some u → w1.cell? ((⟨g, k * 3, none⟩ : Addr).add j) = some u := fun w1 hb1 j u hu => by
          have hadd : (⟨g, k * 3, none⟩ : Addr).add j = ⟨g, k * 3 + j, none⟩ := by unfold Addr.add; split <;> simp_all
          rw [flat_drop, List.getElem?_drop] at hu
          have hlt3 := (List.getElem?_eq_some_iff.1 hu).1
          rw [ob_len] at hlt3
          rw [hadd]
          exact below_cell hb1 (Nat.le_refl _) ((O2.out.cellAt (k * 3 + j) hlt3).trans hu)
        have NW := Lib.hid hnw
        clear hnw
        go_wp2_with (first | (at_builtin; refine wpList_append_own _ rfl (.tmp 36) (.tmp 38) 37 rfl W.heap.size 30 i0 _ 3 24 Try.underlying37 hi hz0 hz1 hz2 rfl (by omega) _ _ _ rfl (OQ.alloc _) ⟨wq.heap.size, 0, none⟩ 1 1 (obCells o) rfl rfl (World.news_of_block (cs := #[.int .i64 o.1, .int .i64 o.2.1, .int .i64 o.2.2]) (t := 30) (fr := (0, 0)) (heap_alloc_new wq _)) (by simp [Value.oneCell', obCells]) (by unfold maxLen; omega) (by omega) (by simp; omega) ?_; intro v1 w1 hown1 hgrow1 _; have hB1 : Below W.heap.size W w1 := (BQ.alloc BQ.size _).grown hgrow1 (by simp; omega) (fun g e => (OQ.lt g e).1); have hc1 := G1.out w1 hB1; have hz1s := hB1.size) | (at_builtin; refine wpList_append_own _ rfl (.tmp 41) (.tmp 47) 37 rfl W.heap.size 30 i0 _ 3 24 Try.underlying37 hi hz0 hz1 hz2 rfl (by omega) _ _ _ rfl hown1 ⟨g, k * 3, none⟩ (S.length - k) (cap - k) ((S.drop k).flatMap obCells) rfl (by rw [ob_len, List.length_drop]) (NW.out w1 hB1) ob_one (by unfold maxLen; omega) (by omega) (by omega) ?_; intro v2 w2 hown2 hgrow2 _; have hB2 : Below W.heap.size W w2 := hB1.grown hgrow2 (by omega) (fun g e => (hown1.lt g e).1); have hc2 := G1.out w2 hB2; have hf2 := G2.out w2 hB2; obtain ⟨a2, c2, rfl, -, -⟩ := owns_form hown2))
        go_end0
        obtain ⟨r1, r2⟩ := put_fin (S' := putL S o) HW.out hB2 BB.out hown2 HRH.out hw0 (by rw [PL.out]; simp; omega) (by rw [PL.out]; simp)
        exact ⟨⟨_, rfl⟩, r1, r2⟩
    · have PL := Lib.hid (take_dropW hk AH.out (fun y hy => by rw [List.getElem?_eq_none (by omega)] at hy; cases hy))
      have hdec : decide ((k : Int) < (S.length : Int)) = false := by simp; omega
      have hge : S.length ≤ k := by omega
      have hDN : S.drop k = [] := List.drop_eq_nil_of_le hge
      rw [hDN] at PL
      clear hDN
      cases a with
      | none =>
        obtain ⟨hS0, hc0⟩ : S = [] ∧ cap = 0 := by
          rcases O1.out.2 with ⟨h1, h2⟩ | ⟨g, c, cur, h1, _⟩
          · exact ⟨List.eq_nil_of_length_eq_zero h2, by injection h1⟩
          · cases h1
        subst hS0 hc0
        obtain rfl : k = 0 := by simpa using hk
        dsimp only [List.length_nil] at *
        go_wp2_with fail
        clear k0 k1 k2 k3
        go_quiet (fail)
        clear hdec
        have hbq : Below wr.heap.size wr (wr.drewN nq) := below_drewN (Below.refl _ _) nq
        generalize wr.drewN nq = wq at hbq ⊢
        have OQ := owns_below OU.out hbq
        have BQ := on2 HB.out hbq
        have hbs := BQ.size
        replace s0 := below_cell hbq (Nat.le_refl _) s0
        replace s1 := below_cell hbq (Nat.le_refl _) s1
        replace s2 := below_cell hbq (Nat.le_refl _) s2
        clear c0
        have hcB := BB.out.cell (i := 0) rfl
        have hfB := BB.out.frozen 0
        have hBl := BB.out.lt
        have G1 := Lib.hid (fun (w1 : World) (h : Below W.heap.size W w1) => below_cell h (Nat.le_refl _) hcB)
        have G2 := Lib.hid (fun (w1 : World) (h : Below W.heap.size W w1) => (h.frozen (p := ⟨B, 0, none⟩) hBl).trans hfB)
        clear hcB hfB
        go_wp2_with (first | (at_builtin; refine wpList_append_own _ rfl (.tmp 36) (.tmp 38) 37 rfl W.heap.size 30 i0 _ 3 24 Try.underlying37 hi hz0 hz1 hz2 rfl (by omega) _ _ _ rfl (OQ.alloc _) ⟨wq.heap.size, 0, none⟩ 1 1 (obCells o) rfl rfl (World.news_of_block (cs := #[.int .i64 o.1, .int .i64 o.2.1, .int .i64 o.2.2]) (t := 30) (fr := (0, 0)) (heap_alloc_new wq _)) (by simp [Value.oneCell', obCells]) (by unfold maxLen; omega) (by omega) (by simp; omega) ?_; intro v1 w1 hown1 hgrow1 _; have hB1 : Below W.heap.size W w1 := (BQ.alloc BQ.size _).grown hgrow1 (by simp; omega) (fun g e => (OQ.lt g e).1); have hc1 := G1.out w1 hB1; have hz1s := hB1.size) | (at_builtin; refine wpList_append_own_none rfl (.tmp 41) (.tmp 47) 37 rfl W.heap.size 30 i0 3 Try.underlying37 hi _ _ _ rfl hown1 rfl ?_; have hown2 := hown1; obtain ⟨a2, c2, rfl, -, -⟩ := owns_form hown1; have hf2 := G2.out w1 hB1))
        go_end0
        obtain ⟨r1, r2⟩ := put_fin (S' := putL [] o) HW.out hB1 BB.out hown2 HRH.out hw0 (by rw [PL.out]; simp) (by rw [PL.out]; simp)
        exact ⟨⟨_, rfl⟩, r1, r2⟩
      | some ad =>
        go_wp2_with fail
        clear k0 k1 k2 k3
        go_quiet (fail)
        clear hdec
        have hbq : Below wr.heap.size wr (wr.drewN nq) := below_drewN (Below.refl _ _) nq
        generalize wr.drewN nq = wq at hbq ⊢
        have OQ := owns_below OU.out hbq
        have BQ := on2 HB.out hbq
        have hbs := BQ.size
        replace s0 := below_cell hbq (Nat.le_refl _) s0
        replace s1 := below_cell hbq (Nat.le_refl _) s1
        replace s2 := below_cell hbq (Nat.le_refl _) s2
        clear c0
        have hcB := BB.out.cell (i := 0) rfl
        have hfB := BB.out.frozen 0
        have hBl := BB.out.lt
        have G1 := Lib.hid (fun (w1 : World) (h : Below W.heap.size W w1) => below_cell h (Nat.le_refl _) hcB)
        have G2 := Lib.hid (fun (w1 : World) (h : Below W.heap.size W w1) => (h.frozen (p := ⟨B, 0, none⟩) hBl).trans hfB)
        clear hcB hfB
        by_cases hck : cap = k
        · go_wp2_with (first | (at_builtin; refine wpList_append_own _ rfl (.tmp 36) (.tmp 38) 37 rfl W.heap.size 30 i0 _ 3 24 Try.underlying37 hi hz0 hz1 hz2 rfl (by omega) _ _ _ rfl (OQ.alloc _) ⟨wq.heap.size, 0, none⟩ 1 1 (obCells o) rfl rfl (World.news_of_block (cs := #[.int .i64 o.1, .int .i64 o.2.1, .int .i64 o.2.2]) (t := 30) (fr := (0, 0)) (heap_alloc_new wq _)) (by simp [Value.oneCell', obCells]) (by unfold maxLen; omega) (by omega) (by simp; omega) ?_; intro v1 w1 hown1 hgrow1 _; have hB1 : Below W.heap.size W w1 := (BQ.alloc BQ.size _).grown hgrow1 (by simp; omega) (fun g e => (OQ.lt g e).1); have hc1 := G1.out w1 hB1; have hz1s := hB1.size) | (at_builtin; refine wpList_append_own _ rfl (.tmp 41) (.tmp 47) 37 rfl W.heap.size 30 i0 _ 3 24 Try.underlying37 hi hz0 hz1 hz2 rfl (by omega) _ _ _ rfl hown1 ad 0 0 [] rfl (by simp) (by intro j u hu; simp at hu) (by simp) (by unfold maxLen; omega) (by omega) (by omega) ?_; intro v2 w2 hown2 hgrow2 _; have hB2 : Below W.heap.size W w2 := hB1.grown hgrow2 (by omega) (fun g e => (hown1.lt g e).1); have hc2 := G1.out w2 hB2; have hf2 := G2.out w2 hB2; obtain ⟨a2, c2, rfl, -, -⟩ := owns_form hown2))
          go_end0
          obtain ⟨r1, r2⟩ := put_fin (S' := putL S o) HW.out hB2 BB.out hown2 HRH.out hw0 (by rw [PL.out]; simp; omega) (by rw [PL.out]; simp)
          exact ⟨⟨_, rfl⟩, r1, r2⟩
        · go_wp2_with (first | (at_builtin; refine wpList_append_own _ rfl (.tmp 36) (.tmp 38) 37 rfl W.heap.size 30 i0 _ 3 24 Try.underlying37 hi hz0 hz1 hz2 rfl (by omega) _ _ _ rfl (OQ.alloc _) ⟨wq.heap.size, 0, none⟩ 1 1 (obCells o) rfl rfl (World.news_of_block (cs := #[.int .i64 o.1, .int .i64 o.2.1, .int .i64 o.2.2]) (t := 30) (fr := (0, 0)) (heap_alloc_new wq _)) (by simp [Value.oneCell', obCells]) (by unfold maxLen; omega) (by omega) (by simp; omega) ?_; intro v1 w1 hown1 hgrow1 _; have hB1 : Below W.heap.size W w1 := (BQ.alloc BQ.size _).grown hgrow1 (by simp; omega) (fun g e => (OQ.lt g e).1); have hc1 := G1.out w1 hB1; have hz1s := hB1.size) | (at_builtin; refine wpList_append_own _ rfl (.tmp 41) (.tmp 47) 37 rfl W.heap.size 30 i0 _ 3 24 Try.underlying37 hi hz0 hz1 hz2 rfl (by omega) _ _ _ rfl hown1 (ad.add (k * 3)) 0 (cap - k) [] rfl (by simp) (by intro j u hu; simp at hu) (by simp) (by unfold maxLen; omega) (by omega) (by omega) ?_; intro v2 w2 hown2 hgrow2 _; have hB2 : Below W.heap.size W w2 := hB1.grown hgrow2 (by omega) (fun g e => (hown1.lt g e).1); have hc2 := G1.out w2 hB2; have hf2 := G2.out w2 hB2; obtain ⟨a2, c2, rfl, -, -⟩ := owns_form hown2))
          go_end0
          obtain ⟨r1, r2⟩ := put_fin (S' := putL S o) HW.out hB2 BB.out hown2 HRH.out hw0 (by rw [PL.out]; simp; omega) (by rw [PL.out]; simp)
          exact ⟨⟨_, rfl⟩, r1, r2⟩

set_option maxRecDepth 100000 in
set_option maxHeartbeats 1000000 in
theorem drop_any (b0 B : Nat) (S : List Ob) (o : Ob) (w : World) (h : Rh w b0 B S) (hw0 : b0 ≤ w.heap.size) (hl : S.length < 5000000000000) :
    Calls Try.prog 68 #[.pointer (some ⟨B, 0, none⟩), obV o] w fun e w' => (∃ v, e = .returned v) ∧ Rh w' b0 B (dropL S o) ∧ w.grownBy w' (some B) := by
  have hal : Below w.heap.size w (w.alloc (.cells #[.int .i64 o.1, .int .i64 o.2.1, .int .i64 o.2.2] 30)) := (by repeat (first | exact Below.refl _ _ | assumption | refine Below.setCell ?_ (by first | omega | (simp; done) | (simp; omega)) _ | refine Below.drew ?_ | refine Below.alloc ?_ (by first | omega | (simp; done) | (simp; omega)) _ | refine Below.trans ?_ (Below.mono (by assumption) (by first | omega | (simp; done) | (simp; omega)))))
  obtain ⟨i0, hi, hz0, hz1, hz2⟩ := info_parts info30
  obtain ⟨v, h1, h2⟩ := h.val
  obtain ⟨a, cap, rfl, hcl, hcm⟩ := owns_form h2
  have T := Blk.new w #[.int .i64 o.1, .int .i64 o.2.1, .int .i64 o.2.2] 30
  have t0 := Lib.hid (T.cell (i := 0) rfl)
  have t1 := Lib.hid (T.cell (i := 1) rfl)
  have t2 := Lib.hid (T.cell (i := 2) rfl)
  have BB := Lib.hid (h1.below hal)
  have O1 := Lib.hid (owns_below h2 hal)
  have HW := Lib.hid hal
  have HRH := Lib.hid h.hB
  have hlm : S.length ≤ 9223372036854775807 := by omega
  clear hal h1 h2 T h
  go_enter Try.func68, Try.ntmps68
  go_wp2_with fail
  generalize w.alloc (.cells #[.int .i64 o.1, .int .i64 o.2.1, .int .i64 o.2.2] 30) = W at *
  go_loopw [4, 5] (fun v i wr => ∃ k : Nat, k ≤ S.length ∧ i = .int .i64 k ∧ wr.ownsRow W.heap.size 30 3 v (dropL (S.take k) o).length ((dropL (S.take k) o).flatMap obCells) ∧ Below W.heap.size W wr) (fun _ i _ => S.length - (intOf i).toNat)
  case atStart => exact ⟨0, Nat.zero_le _, rfl, World.ownsRow_nil _ _ _ _, Below.refl _ _⟩
  case round =>
    obtain ⟨k, hk, rfl, hO, hb⟩ := hrel
    have HB := Lib.hid hb
    have OU := Lib.hid hO
    have c0 := below_cell hb (Nat.le_refl _) (BB.out.cell (i := 0) rfl)
    have s0 := below_cell hb (Nat.le_refl _) t0.out
    have s1 := below_cell hb (Nat.le_refl _) t1.out
    have s2 := below_cell hb (Nat.le_refl _) t2.out
    simp at c0 s0 s1 s2
    have hdl := len_dropL (S.take k) o
    rw [take_len hk] at hdl
    clear hb hO
    by_cases hlt : k < S.length
    · obtain ⟨x, hx⟩ : ∃ x, S[k]? = some x := ⟨_, List.getElem?_eq_getElem hlt⟩
      obtain ⟨g, rfl, d0, d1, d2⟩ := ob_cells O1.out hx rfl
      replace d0 := below_cell HB.out (Nat.le_refl _) d0
      replace d1 := below_cell HB.out (Nat.le_refl _) d1
      replace d2 := below_cell HB.out (Nat.le_refl _) d2
      have HX := Lib.hid (take_succ hx)
      have i0' : (0 : Int) ≤ (k : Int) := by omega
      have i1 : (k : Int) < (S.length : Int) := by omega
      clear hx
      by_cases hxo : x = o
      · have hq := neq30 (x := x) (y := o) false (by simpa using hxo)
        have DR := Lib.hid (show dropL (S.take (k + 1)) o = dropL (S.take k) o by rw [HX.out]; simp [dropL, hxo])
        clear hxo
        go_wp2_with fail
        go_quiet (fail)
        go_wp2_with fail
        go_roundw
        case rel => exact ⟨k + 1, by omega, by go_num, by rw [DR.out]; exact OU.out, below_drewN HB.out _⟩
        case measure => simp [intOf]; omega
      · have hq := neq30 (x := x) (y := o) true (by simpa using hxo)
        have DR := Lib.hid (show dropL (S.take (k + 1)) o = dropL (S.take k) o ++ [x] by rw [HX.out]; simp [dropL, hxo])
        clear hxo
        go_wp2_with fail
        go_quiet (fail)
        clear s0 s1 s2 hq
        have hbq : Below wr.heap.size wr (wr.drewN nq) := below_drewN (Below.refl _ _) nq
        generalize wr.drewN nq = wq at hbq ⊢
        replace c0 := below_cell hbq (Nat.le_refl _) c0
        replace d0 := below_cell hbq (Nat.le_refl _) d0
        replace d1 := below_cell hbq (Nat.le_refl _) d1
        replace d2 := below_cell hbq (Nat.le_refl _) d2
        have OQ := owns_below OU.out hbq
        have BQ := on2 HB.out hbq
        have hbs := BQ.size
        go_wp2_with (at_builtin; refine wpList_append_own _ rfl _ _ 37 rfl W.heap.size 30 i0 _ 3 24 Try.underlying37 hi hz0 hz1 hz2 rfl (by omega) _ _ _ rfl (OQ.alloc _) ⟨wq.heap.size, 0, none⟩ 1 1 (obCells x) rfl rfl (World.news_of_block (cs := #[.int .i64 x.1, .int .i64 x.2.1, .int .i64 x.2.2]) (t := 30) (fr := (0, 0)) (heap_alloc_new wq _)) (by simp [Value.oneCell', obCells]) (by unfold maxLen; omega) (by omega) (by simp; omega) ?_; intro v' w1 hown' hgrow _)
        have hB1 : Below W.heap.size W w1 := (BQ.alloc BQ.size _).grown hgrow (by simp; omega) (fun g e => (OQ.lt g e).1)
        refine ⟨⟨k + 1, by omega, by go_num, ?_, hB1⟩, by simp [intOf]; omega⟩
        rw [DR.out, List.flatMap_append, List.length_append]
        simpa using hown'
    · obtain rfl : k = S.length := by omega
      rw [List.take_length] at OU
      obtain ⟨a2, c2, rfl, -, -⟩ := owns_form OU.out
      have hf := (HB.out.frozen (p := ⟨B, 0, none⟩) BB.out.lt).trans (BB.out.frozen 0)
      clear s0 s1 s2
      go_wp2_with fail
      go_end0
      obtain ⟨r1, r2⟩ := put_fin (S' := dropL S o) HW.out HB.out BB.out OU.out HRH.out hw0 rfl rfl
      exact ⟨⟨_, rfl⟩, r1, r2⟩
end Go.Proofs.Ythmkmjoeceghiaa
