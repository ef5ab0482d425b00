/- The walk over the reference's Line. -/
import Derived.Test.YthmkmjoeceghiaaPE
import Derived.Deep.DeepCutAuto
namespace Go.Proofs.Ythmkmjoeceghiaa
open Go.RowKit

attribute [local go_sem ↓] Go.wp_at_zero Go.wp_at_succ
theorem Rh.blk {w : World} {b0 R : Nat} {S : List Ob} (h : Rh w b0 R S) : ∃ v, Blk w R #[v] 96 := by obtain ⟨v, h1, _⟩ := h.val; exact ⟨v, h1⟩
theorem bad_iff1 {l : List Sp} {out : List Nat} {S : List Ob} {m k : Nat} (h : base l out S m = some k) (h1 : (sp l k).1.1 ≠ 1) : pick l out S m = some k := by unfold pick; rw [h]; simp only; rw [if_neg h1]
theorem bad_iff2 {l : List Sp} {out : List Nat} {S : List Ob} {m k : Nat} (h : base l out S m = some k) (h1 : (sp l k).1.1 = 1) (hb : bad l out m = none) : pick l out S m = some k := by unfold pick; rw [h]; simp only; rw [if_pos h1, hb]; rfl
theorem bad_iff3 {l : List Sp} {out : List Nat} {S : List Ob} {m k b : Nat} (h : base l out S m = some k) (h1 : (sp l k).1.1 = 1) (hb : bad l out m = some b) : pick l out S m = some b := by unfold pick; rw [h]; simp only; rw [if_pos h1, hb]; rfl
theorem bad_iff0 {l : List Sp} {out : List Nat} {S : List Ob} {m : Nat} (h : base l out S m = none) : pick l out S m = none := by unfold pick; rw [h]
theorem base_free {l : List Sp} {out : List Nat} {S : List Ob} {m : Nat} (h : (sp l m).1.1 = 2 ∨ decide ((sp l m).1.2 ∈ S) = decide ((sp l m).1.1 = 3)) : base l out S m = some m := by
  unfold base blocked
  rw [if_neg]
  rcases h with h | h
  · simp [h]
  · simp [h]
theorem base_blocked {l : List Sp} {out : List Nat} {S : List Ob} {m : Nat} (h2 : (sp l m).1.1 ≠ 2) (h : decide ((sp l m).1.2 ∈ S) ≠ decide ((sp l m).1.1 = 3)) : base l out S m = hlp l out S m := by
  unfold base blocked
  rw [if_pos]
  simp only [Bool.and_eq_true, decide_eq_true_eq]
  exact ⟨h2, h⟩
theorem hlp_some {l : List Sp} {out : List Nat} {m k : Nat} {kind : Int} (h : least l (hlpP l out m kind) l.length = some k) : k < l.length ∧ (sp l k).1.1 = kind := by
  obtain ⟨h1, h2, _⟩ := least_some.1 h
  simp only [hlpP, Bool.and_eq_true, decide_eq_true_eq] at h2
  exact ⟨h1, h2.1.2⟩
set_option maxRecDepth 100000 in
set_option maxHeartbeats 8000000 in
theorem rline_any (l : List Sp) (a : Option Addr) (cap : Nat) (w : World) (hl : l.length ≤ 5000000000000) (hw : WfS l) (hI : IsSpans w a l) : Calls Try.prog 27 #[.slice a l.length cap] w (LineIs l w) := by
  have HI := Lib.hid hI
  have HWF := Lib.hid (show ∀ i, i < l.length → WfO (sp l i).1.2 from fun i hi => by
    rw [sp_at (List.getElem?_eq_getElem hi)]; exact hw _ (List.getElem_mem hi))
  have hck := rcheck_any l a cap w (by omega) hI
  obtain ⟨i0, hi, hz0, hz1, hz2⟩ := info_parts info3
  clear hI hw
  by_cases h0 : chk l = 0
  · rw [h0] at hck
    have hl256 := (chk_zero h0).1
    have HV := Lib.hid (chk_zero h0).2
    have H0 := Lib.hid h0
    clear h0
    have hmk := run_make_row' (P := Try.prog) 60 4 (.bool false) 1 Try.underlying60 info4 rfl .i64 .i64 l.length (by omega) (by omega)
    go_enter Try.func27, Try.ntmps27
    go_wp2_with fail
    refine hck.mono ?_
    rintro e w1 ⟨rfl, hb⟩
    have B1 := Lib.hid hb
    clear hb hck
    go_wp2_with fail
    refine (rnew_any w1).mono ?_
    rintro e w2 ⟨rfl, hR, hb⟩
    have R2 := Lib.hid hR
    have hwR := B1.out.size
    have B2 := Lib.hid (on2 B1.out hb)
    clear hR hb B1
    generalize w1.heap.size = R at *
    obtain ⟨D, hD⟩ : ∃ D, D = w2.heap.size := ⟨_, rfl⟩
    have hRD : R < D := by rw [hD]; obtain ⟨v, hv⟩ := R2.out.blk; exact hv.lt
    have L3 := Lib.hid (show (w2.alloc (.cells (madeCells #[.bool false] l.length) 4)).rowIs D 4 l.length (fun j => .bool (decide (j < 0))) from by
      rw [hD]; exact (World.rowIs_made w2 (.bool false) l.length 4).congr (fun j _ => by simp))
    have hb3 : Below w2.heap.size w2 (w2.alloc (.cells (madeCells #[.bool false] l.length) 4)) := (Below.refl _ _).alloc (Nat.le_refl _) _
    have R3 := Lib.hid (R2.out.below hb3)
    have B3 := Lib.hid (on2 B2.out hb3)
    go_wp2_with fail
    rw [← hD]
    clear hD R2 B2 hmk hb3
    generalize w2.alloc (.cells (madeCells #[.bool false] l.length) 4) = w3 at *
    go_loopw [7] (fun iv wr => ∃ i : Nat, i ≤ l.length ∧ iv = .int .i64 i ∧ wr.rowIs D 4 l.length (fun j => .bool (decide (j < i))) ∧ Rh wr R R [] ∧ Below w.heap.size w wr) (fun iv _ => l.length - (intOf iv).toNat)
    case atStart => exact ⟨0, Nat.zero_le _, rfl, L3.out, R3.out, B3.out⟩
    case round =>
      clear L3 R3 B3
      obtain ⟨i, hi', rfl, hL, hR, hB⟩ := hrel
      have LL := Lib.hid hL
      have RR := Lib.hid hR
      have BB := Lib.hid hB
      clear hL hR hB
      by_cases hlt : i < l.length
      · have i1 : (0 : Int) ≤ (i : Int) := by omega
        have i2 : (i : Int) < (l.length : Int) := by omega
        have hcd := LL.out.cell (i := i) hlt
        have hfz := LL.out.frozen i
        have L4 := Lib.hid ((LL.out.set i (.bool true)).congr (g := fun j => .bool (decide (j < i + 1))) (fun j _ => by
          by_cases e : j = i
          · rw [if_pos e, decide_eq_true (by omega)]
          · rw [if_neg e]
            have : decide (j < i) = decide (j < i + 1) := by rw [decide_eq_decide]; omega
            rw [this]))
        have R4 := Lib.hid (RR.out.keep (set_grown wr D i (.bool true)) (by simp; omega) (fun g e => by
          obtain rfl : D = g := by simpa using e
          obtain ⟨cs, hcs⟩ := row_cells LL.out
          exact ⟨cs, 4, hcs, by decide⟩))
        have B4 := Lib.hid (BB.out.setCell (p := ⟨D, i, none⟩) (show w.heap.size ≤ D by omega) (.bool true))
        go_wp2_with fail
        go_roundw
        case rel => exact ⟨i + 1, by omega, by go_num, L4.out, R4.out, B4.out⟩
        case measure => simp [intOf]; omega
      · obtain rfl : i = l.length := by omega
        have LF := Lib.hid (show Left wr D l.length [] from LL.out.congr fun j hj => by rw [decide_eq_true hj, decide_eq_true (by simp)])
        have hDl := World.rowIs.lt LL.out
        have LS := Lib.hid (show Ls l w wr R D (.slice none 0 0) [] [] wr from ⟨RR.out, LF.out, World.ownsRow_nil _ _ _ _, BB.out, Nat.le_refl _, by omega, hDl, by omega, hwR, by omega, by simp, by simp, by simp, rfl⟩)
        clear LL RR BB
        go_wp2_with fail
        refine (urgent_any l a cap D [] wr (by omega) (HI.out.below LS.out.below) LF.out).mono ?_
        rintro e w4 ⟨rfl, hb⟩
        have LS4 := Lib.hid (LS.out.below' hb)
        clear hb LS LF
        generalize wr = W at LS4 ⊢
        go_wp2_with fail
        go_loopg [8, 9] (l.length + 1) (fun gh ov mv wr => ∃ (out : List Nat) (S : List Ob), mv = .int .i64 (optI (urg l out)) ∧ gh = l.length + 1 - out.length ∧ Ls l w W R D ov out S wr)
        case atStart => exact ⟨[], [], rfl, rfl, LS4.out⟩
        case round =>
          clear LS4
          obtain ⟨out, S, rfl, hgk, hL⟩ := hrel
          have LS := Lib.hid hL
          have GK := Lib.hid hgk
          have hol := hL.len
          obtain ⟨av, cv, rfl, hcl, hcm⟩ := owns_form hL.own
          have hwW : w.heap.size ≤ W.heap.size := by have := hL.wR; have := hL.RW; omega
          clear hL hgk
          cases hu : urg l out with
          | none =>
            have HT := Lib.hid (show lineT l = some out by
              have := LS.out.fin
              rw [show l.length + 1 - out.length = (l.length - out.length) + 1 by omega, lineF_end hu] at this
              exact this.symm)
            rw [show optI none = -1 from rfl]
            clear hu
            go_wp2_with fail
            go_ret2
            exact lineIs_mk (lineE_yes H0.out HT.out).1 (lineE_yes H0.out HT.out).2 (owns_mono LS.out.own hwW) LS.out.below
          | some m =>
            obtain ⟨u1, u2, u3, u4⟩ := urg_some hu
            have HU := Lib.hid hu
            have HI2 := Lib.hid u2
            clear hu u2 u4
            obtain ⟨g, off, rfl⟩ := HI.out.form (by omega)
            have AT := Lib.hid (fun (W' : World) (hb : Below w.heap.size w W') (k : Nat) (hk : k < l.length) => (HI.out.below hb).at hk)
            have hol2 : S.length ≤ 256 := by have := LS.out.sl; omega
            obtain ⟨⟨⟨km, om⟩, fm, tm⟩, hx⟩ : ∃ x, x = sp l m := ⟨_, rfl⟩
            have HX := Lib.hid hx
            obtain ⟨d0, d1, d2, d3, -, -⟩ := AT.out wr LS.out.below m u1
            rw [← hx] at d0 d1 d2 d3
            dsimp only at d0 d1 d2 d3
            have hhas := rhas_any R R S om wr LS.out.rh (by unfold maxLen; omega)
            have m0 : (0 : Int) ≤ (m : Int) := by omega
            have m1 : (m : Int) < (l.length : Int) := by omega
            rw [show optI (some m) = (m : Int) from rfl]
            clear hx u3
            go_wp2_with fail
            refine hhas.mono ?_
            rintro e w4 ⟨rfl, hb⟩
            have LSH := Lib.hid (LS.out.below' hb)
            clear hhas hb d0 d1 d2 d3 LS
            obtain ⟨d0, d1, d2, d3, -, -⟩ := AT.out w4 LSH.out.below m u1
            rw [← HX.out] at d0 d1 d2 d3
            dsimp only at d0 d1 d2 d3
            obtain ⟨isb, hisb⟩ : ∃ isb, isb = decide (om ∈ S) := ⟨_, rfl⟩
            rw [← hisb]
            have HIS := Lib.hid hisb
            clear hisb
            go_upto_region 16 with fail
            go_cut [66] (fun s66 wx => s66 = .bool (decide (km ≠ 2) && decide (isb ≠ decide (km = 3))) ∧ wx = w4)
            case first =>
              by_cases h2 : km = 2
              · have e2 : (km != 2) = false := by simpa using h2
                have HB := Lib.hid (show (decide (km ≠ 2) && decide (isb ≠ decide (km = 3))) = false by simp [h2])
                clear h2
                go_wp2_with fail
                go_meet
                exact ⟨congrArg Value.bool HB.out.symm, rfl⟩
              · have e2 : (km != 2) = true := by simpa using h2
                by_cases h3 : km = 3
                · have e3 : (km == 3) = true := by simpa using h3
                  have HB := Lib.hid (show (decide (km ≠ 2) && decide (isb ≠ decide (km = 3))) = !isb by simp [h3])
                  clear h2 h3
                  cases isb
                  all_goals
                    go_wp2_with fail
                    go_meet
                    exact ⟨congrArg Value.bool HB.out.symm, rfl⟩
                · have e3 : (km == 3) = false := by simpa using h3
                  have HB := Lib.hid (show (decide (km ≠ 2) && decide (isb ≠ decide (km = 3))) = isb by simp [h2, h3])
                  clear h2 h3
                  cases isb
                  all_goals
                    go_wp2_with fail
                    go_meet
                    exact ⟨congrArg Value.bool HB.out.symm, rfl⟩
            case rest =>
              obtain ⟨rfl, rfl⟩ := hcut
              clear d0 d1 d2 d3
              obtain ⟨bk, hbk⟩ : ∃ bk, bk = (decide (km ≠ 2) && decide (isb ≠ decide (km = 3))) := ⟨_, rfl⟩
              rw [← hbk]
              have HBK := Lib.hid (show bk = blocked S (sp l m) by rw [hbk, HIS.out, ← HX.out]; rfl)
              clear hbk
              go_upto_if 66 with fail
              go_cut [10] (fun s10 wx => ∃ ob, s10 = .int .i64 (optI ob) ∧ base l out S m = ob ∧ Ls l w W R D (.slice av out.length cv) out S wx)
              case first =>
                cases bk with
                | false =>
                  go_wp2_with fail
                  go_meet
                  exact ⟨some m, rfl, by unfold base; rw [← HBK.out]; rfl, LSH.out⟩
                | true =>
                  cases isb with
                  | true =>
                    go_wp2_with fail
                    refine (helper_any l _ cap D m 3 out _ (by omega) u1 (HI.out.below LSH.out.below) LSH.out.lf).mono ?_
                    rintro e w5 ⟨rfl, hb⟩
                    have LS5 := Lib.hid (LSH.out.below' hb)
                    clear hb
                    go_wp2_with fail
                    go_meet
                    exact ⟨_, rfl, by unfold base; rw [← HBK.out, if_pos rfl]; unfold hlp hlpK; rw [if_pos (by have := HIS.out; rw [← HX.out]; simpa using this.symm)], LS5.out⟩
                  | false =>
                    go_wp2_with fail
                    refine (helper_any l _ cap D m 1 out _ (by omega) u1 (HI.out.below LSH.out.below) LSH.out.lf).mono ?_
                    rintro e w5 ⟨rfl, hb⟩
                    have LS5 := Lib.hid (LSH.out.below' hb)
                    clear hb
                    go_wp2_with fail
                    go_meet
                    exact ⟨_, rfl, by unfold base; rw [← HBK.out, if_pos rfl]; unfold hlp hlpK; rw [if_neg (by have := HIS.out; rw [← HX.out]; simpa using this.symm)], LS5.out⟩
              case rest =>
                obtain ⟨ob, rfl, hbs, hLS⟩ := hcut
                have LS6 := Lib.hid hLS
                clear hLS HBK LSH
                cases ob with
                | none =>
                  have HT := Lib.hid (show lineT l = none by
                    have := LS6.out.fin
                    rw [show l.length + 1 - out.length = (l.length - out.length) + 1 by omega, lineF_stop HU.out (bad_iff0 hbs)] at this
                    exact this.symm)
                  rw [show optI none = -1 from rfl]
                  clear hbs
                  go_wp2_with fail
                  go_ret2
                  exact lineIs_mk (lineE_no H0.out HT.out).1 (lineE_no H0.out HT.out).2 (World.ownsRow_nil _ _ _ _) LS6.out.below
                | some k =>
                  have hk1 : k < l.length := by
                    unfold base at hbs
                    split at hbs
                    · exact least_lt hbs
                    · obtain rfl := Option.some.inj hbs; exact u1
                  have BS := Lib.hid hbs
                  clear hbs
                  have n0 : (0 : Int) ≤ (k : Int) := by omega
                  have n1 : (k : Int) < (l.length : Int) := by omega
                  have n2 : ¬ (k : Int) < 0 := by omega
                  rw [show optI (some k) = (k : Int) from rfl]
                  go_wp2_with fail
                  refine (rbad_any l _ cap D m out _ (by omega) u1 (HI.out.below LS6.out.below) LS6.out.lf).mono ?_
                  rintro e w6 ⟨rfl, hb⟩
                  replace LS6 := Lib.hid (LS6.out.below' hb)
                  clear hb
                  obtain ⟨d0, -, -, -, -, -⟩ := AT.out w6 LS6.out.below k hk1
                  obtain ⟨bi, hbi⟩ : ∃ bi, bi = optI (bad l out m) := ⟨_, rfl⟩
                  obtain ⟨q2, hq2⟩ : ∃ q2, q2 = (bad l out m).isSome := ⟨_, rfl⟩
                  obtain ⟨q1, hq1⟩ : ∃ q1, q1 = decide ((sp l k).1.1 = 1) := ⟨_, rfl⟩
                  have d5 : decide (0 ≤ bi) = q2 := by
                    rw [hbi, hq2]
                    cases bad l out m with
                    | none => rfl
                    | some b => simp [optI]
                  have d6 : ((sp l k).1.1 == 1) = q1 := by rw [hq1]; rfl
                  rw [← hbi]
                  have HBI := Lib.hid hbi
                  have HQ1 := Lib.hid hq1
                  have HQ2 := Lib.hid hq2
                  clear hbi hq1 hq2
                  go_upto_region 24 with fail
                  go_cut [89] (fun s89 wx => s89 = .bool (q1 && q2) ∧ wx = w6)
                  case first =>
                    cases q1
                    all_goals
                      go_wp2_with fail
                      go_meet
                      exact ⟨rfl, rfl⟩
                  case rest =>
                    obtain ⟨rfl, rfl⟩ := hcut
                    clear d0 d5 d6
                    obtain ⟨q, hq⟩ : ∃ q, q = (q1 && q2) := ⟨_, rfl⟩
                    rw [← hq]
                    have HP := Lib.hid (show (q = true → ∃ b : Nat, bi = b ∧ pick l out S m = some b) ∧ (q = false → pick l out S m = some k) from by
                      have h1 := HQ1.out
                      have h2 := HQ2.out
                      have h3 := HBI.out
                      constructor
                      · intro h
                        rw [hq, Bool.and_eq_true] at h
                        rw [h.1] at h1
                        rw [h.2] at h2
                        cases hb : bad l out m with
                        | none => rw [hb] at h2; cases h2
                        | some b => exact ⟨b, by rw [h3, hb]; rfl, bad_iff3 BS.out (by simpa using h1.symm) hb⟩
                      · intro h
                        rw [hq] at h
                        by_cases hk : (sp l k).1.1 = 1
                        · rw [decide_eq_true hk] at h1
                          rw [h1, Bool.true_and] at h
                          rw [h] at h2
                          cases hb : bad l out m with
                          | none => exact bad_iff2 BS.out hk hb
                          | some b => rw [hb] at h2; cases h2
                        · exact bad_iff1 BS.out hk)
                    clear hq
                    go_upto_if 89 with fail
                    go_cut [10] (fun s10 wx => ∃ x : Nat, s10 = .int .i64 x ∧ pick l out S m = some x ∧ Ls l w W R D (.slice av out.length cv) out S wx)
                    case first =>
                      cases q with
                      | false =>
                        go_wp2_with fail
                        go_meet
                        exact ⟨k, rfl, HP.out.2 (by first | rfl | trivial), LS6.out⟩
                      | true =>
                        go_wp2_with fail
                        go_meet
                        obtain ⟨b, hb1, hb2⟩ := HP.out.1 (by first | rfl | trivial)
                        exact ⟨b, by rw [hb1], hb2, LS6.out⟩
                    case rest =>
                      obtain ⟨x, rfl, hpx, hLS⟩ := hcut
                      clear HP
                      have HP := Lib.hid hpx
                      have LSH := Lib.hid hLS
                      clear hpx hLS LS6
                      have hps := pick_some HV.out u1 HI2.out HP.out
                      obtain ⟨d0, d1, d2, d3, -, -⟩ := AT.out _ LSH.out.below x hps.1
                      have hx0 : x < l.length := hps.1
                      have x0 : (0 : Int) ≤ (x : Int) := by omega
                      have x1 : (x : Int) < (l.length : Int) := by omega
                      clear hps
                      go_wp2_with fail
                      clear d0 d1 d2 d3
                      have hps := pick_some HV.out u1 HI2.out HP.out
                      have hx1 := hps.1
                      have HX2 := Lib.hid hps.2.1
                      clear hps
                      refine (rdo_any R R S (sp l x).1 _ LSH.out.rh (by have := LSH.out.RW; have := LSH.out.big; omega) (by omega)).mono ?_
                      rintro e w7 ⟨rfl, hR7, hg7⟩
                      have R7 := Lib.hid hR7
                      have G7 := Lib.hid hg7
                      have hs7 := hg7.size
                      have LF7 := Lib.hid (show w7.rowIs D 4 l.length (fun i => .bool (decide (i ∉ out))) from World.rowIs.of_block LSH.out.lf (hg7.block D (World.rowIs.lt LSH.out.lf) (by simpa using Ne.symm LSH.out.RD)))
                      have hcd := LF7.out.cell hx1
                      have hfz := LF7.out.frozen x
                      have OWS := Lib.hid (LSH.out.ownS hg7 x)
                      have hbigS : W.heap.size ≤ (w7.setCell ⟨D, x, none⟩ (.bool false)).heap.size := by have := LSH.out.big; simp; omega
                      have STEP := Lib.hid (fun v' o w2 ho hg2 => LSH.out.step (v' := v') (o := o) (w2 := w2) HU.out HP.out hx1 HX2.out hR7 hg7 ho hg2)
                      clear hR7 hg7
                      go_wp2_with (at_builtin; refine wpList_append_own _ rfl _ _ 46 rfl W.heap.size 3 i0 _ 1 8 Try.underlying46 hi hz0 hz1 hz2 rfl (by omega) _ _ _ rfl (OWS.out.alloc _) ⟨w7.heap.size, 0, none⟩ 1 1 [encN x] rfl rfl (World.news_of_block (cs := #[encN x]) (t := 3) (fr := (0, 0)) (by simpa using heap_alloc_new (w7.setCell ⟨D, x, none⟩ (.bool false)) (.cells #[encN x] 3))) (by simp [Value.oneCell']) (by unfold maxLen; omega) (by omega) (by simp; have := LSH.out.big; omega) ?_; intro v' w8 hown' hgrow _)
                      refine (urgent_any l _ cap D (out ++ [x]) w8 (by omega) (HI.out.below (STEP.out v' _ w8 hown' hgrow).below) (STEP.out v' _ w8 hown' hgrow).lf).mono ?_
                      rintro e w9 ⟨rfl, hb⟩
                      have LSN := Lib.hid ((STEP.out v' _ w8 hown' hgrow).below' hb)
                      clear hb hown' hgrow hcd hfz
                      go_wp2_with fail
                      go_roundg (l.length + 1 - (out.length + 1))
                      case rel => exact ⟨out ++ [x], _, rfl, by simp, LSN.out⟩
                      case measure => have := GK.out; omega
  · have HE := Lib.hid (lineE_bad h0)
    have hne : (chk l != 0) = true := by simpa using h0
    clear h0
    generalize chk l = c at *
    go_enter Try.func27, Try.ntmps27
    go_wp2_with fail
    refine hck.mono ?_
    rintro e w1 ⟨rfl, hb⟩
    go_wp2_with fail
    go_ret2
    exact lineIs_mk HE.out.1 HE.out.2 (World.ownsRow_nil _ _ _ _) hb
end Go.Proofs.Ythmkmjoeceghiaa
