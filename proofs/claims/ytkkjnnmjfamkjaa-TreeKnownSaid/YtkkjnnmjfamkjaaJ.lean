/- Both trees stand alike; trees that were grown. -/
import Derived.Test.YtkkjnnmjfamkjaaI
namespace Go.Proofs.Ytkkjnnmjfamkjaa
open Go.RowKit Go.Shelf

attribute [local go_sem ↓] Go.wp_at_zero Go.wp_at_succ
set_option maxRecDepth 100000 in
set_option maxHeartbeats 1000000 in
theorem same_any (w : World) (base base' B R : Nat) (T : List Gp) (ht : Tr w base B T) (hr : Rf w base' R T) :
    Calls Try.prog 15 #[.pointer (some ⟨B, 0, none⟩), .pointer (some ⟨R, 0, none⟩)] w fun e w' => e = .returned (.bool true) ∧ Below w.heap.size w w' := by
  have TT := Lib.hid ht
  have RR := Lib.hid hr
  clear ht hr
  go_enter Try.func15, Try.ntmps15
  go_wp2_with fail
  go_loopw [5] (fun gv wr => ∃ g : Int, -1 ≤ g ∧ g ≤ 19 ∧ gv = .int .i64 g ∧ Below w.heap.size w wr) (fun gv _ => (19 - intOf gv).toNat)
  case atStart => exact ⟨-1, by omega, by omega, rfl, Below.refl _ _⟩
  case round =>
    obtain ⟨g, hg1, hg2, rfl, hB⟩ := hrel
    rename_i wr
    have BB := Lib.hid hB
    have T1 := Lib.hid (TT.out.below hB)
    have R1 := Lib.hid (RR.out.below hB)
    have hsz := Lib.hid hB.size
    clear hB
    by_cases hlt : g < 19
    · have hI : Hid (IsI g) := ⟨by omega, by omega⟩
      obtain ⟨l, hl⟩ : ∃ l, path T g = l := ⟨_, rfl⟩
      obtain ⟨xp, hxp⟩ : ∃ x, parentT T g = x := ⟨_, rfl⟩
      obtain ⟨xd, hxd⟩ : ∃ x, depthT T g = x := ⟨_, rfl⟩
      obtain ⟨xo, hxo⟩ : ∃ x, onT T g = x := ⟨_, rfl⟩
      obtain ⟨xh, hxh⟩ : ∃ x, heirT T g = x := ⟨_, rfl⟩
      have hlen := path_len T1.out.wf g
      rw [hl] at hlen
      have HL := Lib.hid hl
      have HP := Lib.hid hxp
      have HD := Lib.hid hxd
      have HO := Lib.hid hxo
      have HH := Lib.hid hxh
      clear hl hxp hxd hxo hxh
      go_wp2_with fail
      refine (path_at T1.out HL.out).mono ?_
      rintro e w1 ⟨a, cap, rfl, ho, hs, hb⟩
      have LO := Lib.hid (owns_mono ho hsz.out)
      have LS := Lib.hid hs
      replace T1 := Lib.hid (T1.out.below hb)
      replace R1 := Lib.hid (R1.out.below hb)
      replace BB := Lib.hid (on BB.out hb)
      clear ho hs hb hsz
      go_wp2_with fail
      refine (parent_at T1.out HP.out).mono ?_
      rintro e wz ⟨rfl, rfl⟩
      go_wp2_with fail
      refine (rparent_at R1.out HP.out).mono ?_
      rintro e wz ⟨rfl, rfl⟩
      go_wp2_with fail
      refine (depth_at T1.out HD.out).mono ?_
      rintro e wz ⟨rfl, rfl⟩
      go_wp2_with fail
      refine (rdepth_at R1.out hI.out HD.out).mono ?_
      rintro e wz ⟨rfl, hb⟩
      replace T1 := Lib.hid (T1.out.below hb)
      replace R1 := Lib.hid (R1.out.below hb)
      replace LO := Lib.hid (owns_below LO.out hb)
      replace LS := Lib.hid (LS.out.below hb)
      replace BB := Lib.hid (on BB.out hb)
      clear hb
      go_wp2_with fail
      refine (online_at T1.out HO.out).mono ?_
      rintro e wz ⟨rfl, rfl⟩
      go_wp2_with fail
      refine (ronline_at R1.out HO.out).mono ?_
      rintro e wz ⟨rfl, rfl⟩
      go_wp2_with fail
      refine (heir_at T1.out HH.out).mono ?_
      rintro e wz ⟨rfl, hb⟩
      replace T1 := Lib.hid (T1.out.below hb)
      replace R1 := Lib.hid (R1.out.below hb)
      replace LO := Lib.hid (owns_below LO.out hb)
      replace LS := Lib.hid (LS.out.below hb)
      replace BB := Lib.hid (on BB.out hb)
      clear hb
      go_wp2_with fail
      refine (rheir_at R1.out HH.out).mono ?_
      rintro e wz ⟨rfl, rfl⟩
      go_wp2_with fail
      refine (rpath_at R1.out hI.out HL.out).mono ?_
      rintro e w2 ⟨a2, cap2, rfl, hs, hb⟩
      have LS2 := Lib.hid hs
      replace T1 := Lib.hid (T1.out.below hb)
      replace R1 := Lib.hid (R1.out.below hb)
      replace LO := Lib.hid (owns_below LO.out hb)
      replace LS := Lib.hid (LS.out.below hb)
      replace BB := Lib.hid (on BB.out hb)
      clear hs hb
      go_wp2_with fail
      refine (eqints_at l l true _ _ _ _ _ _ _ rfl rfl (by simp) LS.out LS2.out).mono ?_
      rintro e wz ⟨rfl, hb⟩
      replace T1 := Lib.hid (T1.out.below hb)
      replace R1 := Lib.hid (R1.out.below hb)
      replace LO := Lib.hid (owns_below LO.out hb)
      replace LS := Lib.hid (LS.out.below hb)
      replace BB := Lib.hid (on BB.out hb)
      clear hb
      go_wp2_with fail
      clear LS LS2
      have B2 := Lib.hid (Below.refl wz.heap.size wz)
      generalize wz = W2 at *
      go_loopw [7] (fun hv wr => ∃ h : Int, -1 ≤ h ∧ h ≤ 19 ∧ hv = .int .i64 h ∧ Below W2.heap.size W2 wr) (fun hv _ => (19 - intOf hv).toNat)
      case atStart => exact ⟨-1, by omega, by omega, rfl, B2.out⟩
      case round =>
        obtain ⟨h, hh1, hh2, rfl, hB3⟩ := hrel
        rename_i w3
        replace T1 := Lib.hid (T1.out.below hB3)
        replace R1 := Lib.hid (R1.out.below hB3)
        replace LO := Lib.hid (owns_below LO.out hB3)
        have B3 := Lib.hid hB3
        clear B2 hB3
        by_cases hlt2 : h < 19
        · obtain ⟨x, hx⟩ : ∃ x, belowT T g h = x := ⟨_, rfl⟩
          have HX := Lib.hid hx
          clear hx
          go_wp2_with fail
          refine (below_at T1.out HX.out).mono ?_
          rintro e w4 ⟨rfl, hb⟩
          replace T1 := Lib.hid (T1.out.below hb)
          replace R1 := Lib.hid (R1.out.below hb)
          replace B3 := Lib.hid (on B3.out hb)
          clear hb
          go_wp2_with fail
          refine (rbelow_at R1.out hI.out HX.out).mono ?_
          rintro e w5 ⟨rfl, hb⟩
          replace B3 := Lib.hid (on B3.out hb)
          clear hb
          go_wp2_with fail
          go_roundw
          case rel => exact ⟨h + 1, by omega, by omega, rfl, B3.out⟩
          case measure => simp [intOf]; omega
        · have B4 := Lib.hid (on BB.out B3.out)
          clear BB B3
          go_wp2_with fail
          go_loopw [8] (fun iv wr => ∃ (k : Nat) (xs : List Value), k ≤ l.length ∧ iv = .int .i64 k ∧ wr.ownsRow w.heap.size 3 1 (.slice a l.length cap) l.length xs ∧ Below w.heap.size w wr) (fun iv _ => l.length - (intOf iv).toNat)
          case atStart => exact ⟨0, _, by omega, rfl, LO.out, B4.out⟩
          case round =>
            obtain ⟨k, xs, hk, rfl, ho, hB5⟩ := hrel
            rename_i w6
            clear T1 R1 LO B4
            by_cases hlt3 : k < l.length
            · obtain ⟨q, cq, hform, hq1, hq2⟩ := ho.form (by omega)
              obtain ⟨rfl, rfl⟩ : a = some ⟨q, 0, none⟩ ∧ cap = cq := by injection hform with h1 _ h3; exact ⟨h1, h3⟩
              have f1 := owns_frozen ho k
              have c1 := ho.cellAt k (by omega)
              have hxl : k < xs.length := by rw [ho.1]; omega
              rw [List.getElem?_eq_getElem hxl] at c1
              have O5 := Lib.hid (owns_set ho k (.int .i64 (-1)))
              have B5 := Lib.hid (hB5.setCell (p := ⟨q, k, none⟩) hq1 (.int .i64 (-1)))
              generalize xs[k] = xk at c1
              clear ho hB5 hform
              go_wp2_with fail
              go_roundw
              case rel => exact ⟨k + 1, _, by omega, by go_num, O5.out, B5.out⟩
              case measure => simp [intOf]; omega
            · have B5 := Lib.hid hB5
              clear hB5 ho
              go_wp2_with fail
              go_roundw
              case rel => exact ⟨g + 1, by omega, by omega, rfl, B5.out⟩
              case measure => simp [intOf]; omega
    · go_wp2_with fail
      refine (many_at T1.out rfl).mono ?_
      rintro e wz ⟨rfl, rfl⟩
      go_wp2_with fail
      refine (rmany_at R1.out rfl).mono ?_
      rintro e wz ⟨rfl, rfl⟩
      go_wp2_with fail
      go_ret
      exact ⟨retB (by simp), BB.out⟩
end Go.Proofs.Ytkkjnnmjfamkjaa
