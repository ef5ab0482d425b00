/- The walk over Check. -/
import Derived.Test.YtdjhkiahpidldaaJ
namespace Go.Proofs.Ytdjhkiahpidldaa
open Go.RowKit

attribute [local go_sem ↓] Go.wp_at_zero Go.wp_at_succ
set_option maxRecDepth 100000 in
set_option maxHeartbeats 1000000 in
theorem check_any (v : Value) (s : Scr) (w : World) (h : ScrAt w v s) : Calls Try.prog 18 #[v] w fun e w' => e = .returned (.int .i64 (chkE s)) ∧ Below w.heap.size w w' := by
  obtain ⟨a1, cc1, ap1, cp1, rfl, hl1, hp1⟩ := h.val
  have hc1 := h.lc
  have LL := Lib.hid h.ll
  have hlp := hp1.len
  have HW : Below w.heap.size w (w.alloc (.cells #[.int .i64 s.cpus, .int .i64 s.pages, .slice a1 s.calls.length cc1, .slice ap1 s.picks.length cp1] 27)) := (Below.refl _ _).alloc (Nat.le_refl _) _
  have T := Blk.new w #[.int .i64 s.cpus, .int .i64 s.pages, .slice a1 s.calls.length cc1, .slice ap1 s.picks.length cp1] 27
  have PP := Lib.hid (hp1.below HW)
  have CC := Lib.hid (show s.calls ≠ [] → ∃ g off, a1 = some ⟨g, off, none⟩ ∧ ∀ (i : Nat) (l : List Cl), s.calls[i]? = some l → IsList (w.alloc (.cells #[.int .i64 s.cpus, .int .i64 s.pages, .slice a1 s.calls.length cc1, .slice ap1 s.picks.length cp1] 27)) ⟨g, off + i, none⟩ l from fun hne => by obtain ⟨g, off, ha, hl⟩ := hl1 hne; exact ⟨g, off, ha, fun i l hi => (hl i l hi).below HW⟩)
  have BW := Lib.hid HW
  have TT := Lib.hid T
  clear h hl1 hp1 HW T
  obtain ⟨b0, hb0⟩ : ∃ b, win s.cpus 1 8 = b := ⟨_, rfl⟩
  obtain ⟨b1, hb1⟩ : ∃ b, win s.pages 1 1024 = b := ⟨_, rfl⟩
  obtain ⟨b2, hb2⟩ : ∃ b, decide ((s.calls.length : Int) = s.cpus) = b := ⟨_, rfl⟩
  obtain ⟨b3, hb3⟩ : ∃ b, decide (s.picks.length ≤ 4096) = b := ⟨_, rfl⟩
  obtain ⟨b4, hb4⟩ : ∃ b, s.calls.all listB = b := ⟨_, rfl⟩
  obtain ⟨b5, hb5⟩ : ∃ b, s.picks.all (fun n => win n 0 255) = b := ⟨_, rfl⟩
  have hR : Hid (chkE s = if (b0 && (b1 && (b2 && (b3 && (b4 && b5))))) = true then 0 else 2) := by unfold chkE validB; rw [hb0, hb1, hb2, hb3, hb4, hb5]; exact rfl
  have H0 := Lib.hid hb0
  have H1 := Lib.hid hb1
  have H4 := Lib.hid hb4
  have H5 := Lib.hid hb5
  clear hb0 hb1 hb4 hb5
  cases b0 with
  | false =>
    clear hb2 hb3
    go_enter Try.func18, Try.ntmps18
    go_wp2_with fail
    refine (win29_at _ _ _ _ _ H0.out).mono ?_
    rintro e wz ⟨rfl, rfl⟩
    go_wp2_with fail
    go_ret
    exact ⟨ret1 (by rw [hR.out]; rfl), BW.out⟩
  | true => cases b1 with
    | false =>
      clear hb2 hb3
      go_enter Try.func18, Try.ntmps18
      go_wp2_with fail
      refine (win29_at _ _ _ _ _ H0.out).mono ?_
      rintro e wz ⟨rfl, rfl⟩
      go_wp2_with fail
      refine (win29_at _ _ _ _ _ H1.out).mono ?_
      rintro e wz ⟨rfl, rfl⟩
      go_wp2_with fail
      go_ret
      exact ⟨ret1 (by rw [hR.out]; rfl), BW.out⟩
    | true => cases b2 with
      | false =>
        have e2 : ((s.calls.length : Int) != s.cpus) = true := by simpa using hb2
        clear hb2 hb3
        go_enter Try.func18, Try.ntmps18
        go_wp2_with fail
        refine (win29_at _ _ _ _ _ H0.out).mono ?_
        rintro e wz ⟨rfl, rfl⟩
        go_wp2_with fail
        refine (win29_at _ _ _ _ _ H1.out).mono ?_
        rintro e wz ⟨rfl, rfl⟩
        go_wp2_with fail
        go_ret
        exact ⟨ret1 (by rw [hR.out]; rfl), BW.out⟩
      | true =>
        have e2 : ((s.calls.length : Int) != s.cpus) = false := by simpa using hb2
        cases b3 with
        | false =>
          have e3 : 4096 < s.picks.length := by simpa using hb3
          clear hb2 hb3
          go_enter Try.func18, Try.ntmps18
          go_wp2_with fail
          refine (win29_at _ _ _ _ _ H0.out).mono ?_
          rintro e wz ⟨rfl, rfl⟩
          go_wp2_with fail
          refine (win29_at _ _ _ _ _ H1.out).mono ?_
          rintro e wz ⟨rfl, rfl⟩
          go_wp2_with fail
          go_ret
          exact ⟨ret1 (by rw [hR.out]; rfl), BW.out⟩
        | true =>
          have e3 : ¬ 4096 < s.picks.length := by simpa using hb3
          clear hb2 hb3
          go_enter Try.func18, Try.ntmps18
          go_wp2_with fail
          refine (win29_at _ _ _ _ _ H0.out).mono ?_
          rintro e wz ⟨rfl, rfl⟩
          go_wp2_with fail
          refine (win29_at _ _ _ _ _ H1.out).mono ?_
          rintro e wz ⟨rfl, rfl⟩
          go_wp2_with fail
          clear e2 e3
          generalize w.alloc (.cells #[.int .i64 s.cpus, .int .i64 s.pages, .slice a1 s.calls.length cc1, .slice ap1 s.picks.length cp1] 27) = W at *
          go_loopw [32] (fun i wr => ∃ k : Nat, k ≤ s.calls.length ∧ i = .int .i64 k ∧ (∀ j x, j < k → s.calls[j]? = some x → listB x = true) ∧ Below W.heap.size W wr) (fun i _ => s.calls.length - (intOf i).toNat)
          case atStart => exact ⟨0, Nat.zero_le _, rfl, fun j x hj => by omega, Below.refl _ _⟩
          case round =>
            obtain ⟨k, hk, rfl, hA, hb⟩ := hrel
            have HA := Lib.hid hA
            have HB := Lib.hid hb
            clear hA hb
            by_cases hlt : k < s.calls.length
            · obtain ⟨g, off, rfl, hLs⟩ := CC.out (by intro e; rw [e] at hlt; simp at hlt)
              obtain ⟨l, hl⟩ : ∃ l, s.calls[k]? = some l := ⟨_, List.getElem?_eq_getElem hlt⟩
              obtain ⟨la, lc, c1, hI⟩ := (hLs k l hl).below HB.out
              have hll := LL.out l (List.mem_of_getElem? hl)
              have HX := Lib.hid hl
              have HI := Lib.hid hI
              have i0 : (0 : Int) ≤ (k : Int) := by omega
              have i1 : (k : Int) < (s.calls.length : Int) := by omega
              clear hLs hl hI
              by_cases h64 : 64 < l.length
              · have HF := Lib.hid (all_f (p := listB) HX.out (by simp [listB]; omega))
                rw [HF.out] at H4
                obtain rfl : b4 = false := H4.out.symm
                go_wp2_with fail
                go_ret
                exact ⟨ret1 (by rw [hR.out]; rfl), on BW.out HB.out⟩
              · go_wp2_with fail
                refine (conc_any l la lc wr hll HI.out).mono ?_
                rintro e w1 ⟨rfl, hb1⟩
                have HB1 := Lib.hid (on HB.out hb1)
                clear hb1 c1
                by_cases hm : l.all mayC = true
                · have HM := Lib.hid (show listB l = true by simp only [listB, hm, Bool.and_true, decide_eq_true_eq]; omega)
                  rw [hm]
                  clear hm
                  go_wp2_with fail
                  go_roundw
                  case rel => exact ⟨k + 1, by omega, by go_num, fun j y hj hy => (by
                    by_cases e : j = k
                    · rw [e, HX.out] at hy; cases hy; exact HM.out
                    · exact HA.out j y (by omega) hy), HB1.out⟩
                  case measure => simp [intOf]; omega
                · have hm' : l.all mayC = false := by simpa using hm
                  have HF := Lib.hid (all_f (p := listB) HX.out (by simp [listB, hm']))
                  rw [HF.out] at H4
                  obtain rfl : b4 = false := H4.out.symm
                  rw [hm']
                  clear hm hm'
                  go_wp2_with fail
                  go_ret
                  exact ⟨ret1 (by rw [hR.out]; rfl), on BW.out HB1.out⟩
            · obtain rfl : k = s.calls.length := by omega
              have HT := Lib.hid (all_of_at (p := listB) HA.out)
              rw [HT.out] at H4
              obtain rfl : b4 = true := H4.out.symm
              have q3 := (TT.out.cell (i := 3) rfl)
              replace q3 := below_cell HB.out (Nat.le_refl _) q3
              simp at q3
              go_wp2_with fail
              refine (conp_any s.picks ap1 cp1 wr (PP.out.below HB.out)).mono ?_
              rintro e w1 ⟨rfl, hb1⟩
              have HB1 := Lib.hid (on HB.out hb1)
              rw [H5.out]
              clear hb1 q3
              cases b5 with
              | true =>
                go_wp2_with fail
                go_ret
                exact ⟨ret1 (by rw [hR.out]; rfl), on BW.out HB1.out⟩
              | false =>
                go_wp2_with fail
                go_ret
                exact ⟨ret1 (by rw [hR.out]; rfl), on BW.out HB1.out⟩
end Go.Proofs.Ytdjhkiahpidldaa
