/- The walk over the reference's Check. -/
import Derived.Test.YtdjhkiahpidldaaJ
import Derived.Deep.DeepCutAuto
namespace Go.Proofs.Ytdjhkiahpidldaa
open Go.RowKit

attribute [local go_sem ↓] Go.wp_at_zero Go.wp_at_succ
theorem all_take {α : Type} {p : α → Bool} {l : List α} {k : Nat} {x : α} (h : l[k]? = some x) : (l.take (k + 1)).all p = ((l.take k).all p && p x) := by
  rw [take_succ h]; simp
theorem all_cut {α : Type} {p : α → Bool} {l : List α} {m : Nat} {b : Bool} (h : l.length ≤ m ∨ (b && (l.take m).all p) = false) : (b && (l.take m).all p) = (b && l.all p) := by
  rcases h with h | h
  · rw [List.take_of_length_le h]
  · rw [h]
    cases b with
    | false => rfl
    | true =>
      simp only [Bool.true_and, List.all_eq_false] at h
      obtain ⟨x, hx, hp⟩ := h
      have : l.all p = false := List.all_eq_false.mpr ⟨x, List.mem_of_mem_take hx, hp⟩
      rw [this]; rfl
set_option maxRecDepth 100000 in
set_option maxHeartbeats 1000000 in
theorem rcheck_any (v : Value) (s : Scr) (w : World) (h : ScrAt w v s) : Calls Try.prog 19 #[v] w fun e w' => e = .returned (.int .i64 (chkE s)) ∧ Below w.heap.size w w' := by
  obtain ⟨a1, cc1, ap1, cp1, rfl, hl1, hp1⟩ := h.val
  have hc1 := h.lc
  have LL := Lib.hid h.ll
  have hlp := hp1.len
  have HW : Below w.heap.size w (w.alloc (.cells #[.int .i64 s.cpus, .int .i64 s.pages, .slice a1 s.calls.length cc1, .slice ap1 s.picks.length cp1] 27)) := (Below.refl _ _).alloc (Nat.le_refl _) _
  have T := Blk.new w #[.int .i64 s.cpus, .int .i64 s.pages, .slice a1 s.calls.length cc1, .slice ap1 s.picks.length cp1] 27
  have PP := Lib.hid (hp1.below HW)
  have CC := Lib.hid (show s.calls ≠ [] → ∃ g off, a1 = some ⟨g, off, none⟩ ∧ ∀ (i : Nat) (l : List Cl), s.calls[i]? = some l → IsList (w.alloc (.cells #[.int .i64 s.cpus, .int .i64 s.pages, .slice a1 s.calls.length cc1, .slice ap1 s.picks.length cp1] 27)) ⟨g, off + i, none⟩ l from fun hne => by obtain ⟨g, off, ha, hl⟩ := hl1 hne; exact ⟨g, off, ha, fun i l hi => (hl i l hi).below HW⟩)
  have BW := Lib.hid HW
  have TT := Lib.hid T
  clear h hl1 hp1 HW T
  obtain ⟨b0, hb0⟩ : ∃ b, win s.cpus 1 8 = b := ⟨_, rfl⟩
  obtain ⟨b1, hb1⟩ : ∃ b, win s.pages 1 1024 = b := ⟨_, rfl⟩
  obtain ⟨b2, hb2⟩ : ∃ b, decide ((s.calls.length : Int) = s.cpus) = b := ⟨_, rfl⟩
  obtain ⟨b3, hb3⟩ : ∃ b, decide (s.picks.length ≤ 4096) = b := ⟨_, rfl⟩
  obtain ⟨b4, hb4⟩ : ∃ b, s.calls.all listB = b := ⟨_, rfl⟩
  obtain ⟨b5, hb5⟩ : ∃ b, s.picks.all (fun n => win n 0 255) = b := ⟨_, rfl⟩
  have hR : Hid (chkE s = if (b0 && (b1 && (b2 && (b3 && (b4 && b5))))) = true then 0 else 2) := by unfold chkE validB; rw [hb0, hb1, hb2, hb3, hb4, hb5]; exact rfl
  have H0 := Lib.hid hb0
  have H1 := Lib.hid hb1
  have H4 := Lib.hid hb4
  have H5 := Lib.hid hb5
  clear hb0 hb1 hb4 hb5
  have H2 := Lib.hid hb2
  have H3 := Lib.hid hb3
  clear hb2 hb3
  go_enter Try.func19, Try.ntmps19
  go_upto_region 1 with fail
  have t0 := TT.out.cell (i := 0) (v := .int .i64 s.cpus) rfl
  have t1 := TT.out.cell (i := 1) (v := .int .i64 s.pages) rfl
  have t2 := TT.out.cell (i := 2) (v := .slice a1 s.calls.length cc1) rfl
  have t3 := TT.out.cell (i := 3) (v := .slice ap1 s.picks.length cp1) rfl
  have TC := Lib.hid (And.intro t0 (And.intro t1 (And.intro t2 t3)))
  clear t0 t1 t2 t3
  generalize w.alloc (.cells #[.int .i64 s.cpus, .int .i64 s.pages, .slice a1 s.calls.length cc1, .slice ap1 s.picks.length cp1] 27) = W at *
  go_cut [3] (fun s3 wx => s3 = .bool (b0 && (b1 && (b2 && b3))) ∧ W = wx)
  case first =>
    obtain ⟨t0, t1, t2, t3⟩ := TC.out
    have h2 := H2.out
    have h3 := H3.out
    cases b0 with
    | false =>
      clear h2 h3
      go_wp2_with fail
      refine (win35_at _ _ _ _ _ H0.out).mono ?_
      rintro e wz ⟨rfl, rfl⟩
      go_wp2_with fail
      go_meet
      exact ⟨rfl, rfl⟩
    | true => cases b1 with
      | false =>
        clear h2 h3
        go_wp2_with fail
        refine (win35_at _ _ _ _ _ H0.out).mono ?_
        rintro e wz ⟨rfl, rfl⟩
        go_wp2_with fail
        refine (win35_at _ _ _ _ _ H1.out).mono ?_
        rintro e wz ⟨rfl, rfl⟩
        go_wp2_with fail
        go_meet
        exact ⟨rfl, rfl⟩
      | true => cases b2 with
        | false =>
          have e2 : ((s.calls.length : Int) == s.cpus) = false := by simpa using h2
          clear h2 h3
          go_wp2_with fail
          refine (win35_at _ _ _ _ _ H0.out).mono ?_
          rintro e wz ⟨rfl, rfl⟩
          go_wp2_with fail
          refine (win35_at _ _ _ _ _ H1.out).mono ?_
          rintro e wz ⟨rfl, rfl⟩
          go_wp2_with fail
          go_meet
          exact ⟨rfl, rfl⟩
        | true =>
          have e2 : ((s.calls.length : Int) == s.cpus) = true := by simpa using h2
          cases b3 with
          | false =>
            have e3 : ¬ s.picks.length ≤ 4096 := by simpa using h3
            clear h2 h3
            go_wp2_with fail
            refine (win35_at _ _ _ _ _ H0.out).mono ?_
            rintro e wz ⟨rfl, rfl⟩
            go_wp2_with fail
            refine (win35_at _ _ _ _ _ H1.out).mono ?_
            rintro e wz ⟨rfl, rfl⟩
            go_wp2_with fail
            go_meet
            exact ⟨congrArg Value.bool (by rw [decide_eq_false (show ¬ (s.picks.length : Int) ≤ 4096 by omega)]; rfl), rfl⟩
          | true =>
            have e3 : s.picks.length ≤ 4096 := by simpa using h3
            clear h2 h3
            go_wp2_with fail
            refine (win35_at _ _ _ _ _ H0.out).mono ?_
            rintro e wz ⟨rfl, rfl⟩
            go_wp2_with fail
            refine (win35_at _ _ _ _ _ H1.out).mono ?_
            rintro e wz ⟨rfl, rfl⟩
            go_wp2_with fail
            go_meet
            exact ⟨congrArg Value.bool (by rw [decide_eq_true (show (s.picks.length : Int) ≤ 4096 by omega)]; rfl), rfl⟩
  case rest =>
    obtain ⟨rfl, rfl⟩ := hcut
    obtain ⟨bB, hbB⟩ : ∃ b, b = (b0 && (b1 && (b2 && b3))) := ⟨_, rfl⟩
    have hR2 : Hid (chkE s = if (bB && (b4 && b5)) = true then 0 else 2) := by rw [hbB]; have := hR.out; simp only [Bool.and_assoc] at this ⊢; exact this
    rw [← hbB]
    clear hbB hR H0 H1 H2 H3
    go_wp2_with fail
    go_loopw [3, 4] (fun o i wr => ∃ k : Nat, k ≤ s.calls.length ∧ i = .int .i64 k ∧ o = .bool (bB && (s.calls.take k).all listB) ∧ Below W.heap.size W wr) (fun _ i _ => s.calls.length - (intOf i).toNat)
    case atStart => exact ⟨0, Nat.zero_le _, rfl, by simp, Below.refl _ _⟩
    case round =>
      obtain ⟨k, hk, rfl, rfl, hb⟩ := hrel
      have HB := Lib.hid hb
      have q2 := below_cell hb (Nat.le_refl _) TC.out.2.2.1
      clear hb
      obtain ⟨bk, hbk⟩ : ∃ b, b = (bB && (s.calls.take k).all listB) := ⟨_, rfl⟩
      have HBK := Lib.hid hbk
      rw [← hbk]
      clear hbk
      by_cases hgo : k < s.calls.length ∧ bk = true
      · obtain ⟨hlt, rfl⟩ := hgo
        obtain ⟨g, off, rfl, hLs⟩ := CC.out (by intro e; rw [e] at hlt; simp at hlt)
        obtain ⟨l, hl⟩ : ∃ l, s.calls[k]? = some l := ⟨_, List.getElem?_eq_getElem hlt⟩
        obtain ⟨la, lc, c1, hI⟩ := hLs k l hl
        have hll := LL.out l (List.mem_of_getElem? hl)
        have HX := Lib.hid (all_take (p := listB) hl)
        have HI := Lib.hid hI
        have C1 := Lib.hid c1
        replace c1 := below_cell HB.out (Nat.le_refl _) c1
        have i0 : (0 : Int) ≤ (k : Int) := by omega
        have i1 : (k : Int) < (s.calls.length : Int) := by omega
        clear hLs hl hI
        obtain ⟨b6, hb6⟩ : ∃ b, b = decide ((l.length : Int) ≤ 64) := ⟨_, rfl⟩
        have h6 : decide ((l.length : Int) ≤ 64) = b6 := hb6.symm
        have H6 := Lib.hid (show decide (l.length ≤ 64) = b6 by rw [hb6, Bool.eq_iff_iff]; simp only [decide_eq_true_eq]; omega)
        clear hb6
        go_wp2_with fail
        clear c1 q2
        go_loopw [3, 5] (fun o i wr => ∃ m : Nat, m ≤ l.length ∧ i = .int .i64 m ∧ o = .bool (b6 && (l.take m).all mayC) ∧ Below W.heap.size W wr) (fun _ i _ => l.length - (intOf i).toNat)
        case atStart => exact ⟨0, Nat.zero_le _, rfl, by simp, HB.out⟩
        case round =>
          obtain ⟨m, hm, rfl, rfl, hb⟩ := hrel
          have HD := Lib.hid hb
          have q2 := below_cell hb (Nat.le_refl _) TC.out.2.2.1
          have c1 := below_cell hb (Nat.le_refl _) C1.out
          clear hb
          obtain ⟨bm, hbm⟩ : ∃ b, b = (b6 && (l.take m).all mayC) := ⟨_, rfl⟩
          have HBM := Lib.hid hbm
          rw [← hbm]
          clear hbm
          by_cases hgo : m < l.length ∧ bm = true
          · obtain ⟨hml, rfl⟩ := hgo
            obtain ⟨⟨x0, x1, x2, x3⟩, hx⟩ : ∃ x, l[m]? = some x := ⟨_, List.getElem?_eq_getElem hml⟩
            obtain ⟨g2, off2, rfl, hc⟩ := (HI.out.below HD.out) (by intro e; rw [e] at hml; simp at hml)
            obtain ⟨d0, d1, d2, d3⟩ := hc m _ hx
            have j0 : (0 : Int) ≤ (m : Int) := by omega
            have j1 : (m : Int) < (l.length : Int) := by omega
            dsimp only at d0 d1 d2 d3
            have HE0 := all_take (p := mayC) hx
            clear hx hc
            have HA := Lib.hid (HD.out.alloc HD.out.size (.cells #[.int .i64 x0, .int .i64 x1, .int .i64 x2, .int .i64 x3] 44))
            obtain ⟨p0, hp0⟩ : ∃ b, win x0 0 13 = b := ⟨_, rfl⟩
            obtain ⟨p1, hp1⟩ : ∃ b, win x1 0 255 = b := ⟨_, rfl⟩
            obtain ⟨p2, hp2⟩ : ∃ b, win x2 0 65535 = b := ⟨_, rfl⟩
            obtain ⟨p3, hp3⟩ : ∃ b, win x3 0 255 = b := ⟨_, rfl⟩
            have HE := Lib.hid (show (b6 && (l.take (m + 1)).all mayC) = (p0 && (p1 && (p2 && p3))) by rw [HE0, ← Bool.and_assoc, ← HBM.out, Bool.true_and]; unfold mayC; rw [hp0, hp1, hp2, hp3])
            have P0 := Lib.hid hp0
            have P1 := Lib.hid hp1
            have P2 := Lib.hid hp2
            have P3 := Lib.hid hp3
            clear hp0 hp1 hp2 hp3 HE0
            cases p0 with
            | false =>
              go_wp2_with fail
              refine (win35_at _ _ _ _ _ P0.out).mono ?_
              rintro e wz ⟨rfl, rfl⟩
              go_wp2_with fail
              go_roundw
              case rel => exact ⟨m + 1, by omega, by go_num, congrArg Value.bool (by rw [HE.out]; rfl), HA.out⟩
              case measure => simp [intOf]; omega
            | true => cases p1 with
              | false =>
                go_wp2_with fail
                refine (win35_at _ _ _ _ _ P0.out).mono ?_
                rintro e wz ⟨rfl, rfl⟩
                go_wp2_with fail
                refine (win35_at _ _ _ _ _ P1.out).mono ?_
                rintro e wz ⟨rfl, rfl⟩
                go_wp2_with fail
                go_roundw
                case rel => exact ⟨m + 1, by omega, by go_num, congrArg Value.bool (by rw [HE.out]; rfl), HA.out⟩
                case measure => simp [intOf]; omega
              | true => cases p2 with
                | false =>
                  go_wp2_with fail
                  refine (win35_at _ _ _ _ _ P0.out).mono ?_
                  rintro e wz ⟨rfl, rfl⟩
                  go_wp2_with fail
                  refine (win35_at _ _ _ _ _ P1.out).mono ?_
                  rintro e wz ⟨rfl, rfl⟩
                  go_wp2_with fail
                  refine (win35_at _ _ _ _ _ P2.out).mono ?_
                  rintro e wz ⟨rfl, rfl⟩
                  go_wp2_with fail
                  go_roundw
                  case rel => exact ⟨m + 1, by omega, by go_num, congrArg Value.bool (by rw [HE.out]; rfl), HA.out⟩
                  case measure => simp [intOf]; omega
                | true =>
                  go_wp2_with fail
                  refine (win35_at _ _ _ _ _ P0.out).mono ?_
                  rintro e wz ⟨rfl, rfl⟩
                  go_wp2_with fail
                  refine (win35_at _ _ _ _ _ P1.out).mono ?_
                  rintro e wz ⟨rfl, rfl⟩
                  go_wp2_with fail
                  refine (win35_at _ _ _ _ _ P2.out).mono ?_
                  rintro e wz ⟨rfl, rfl⟩
                  go_wp2_with fail
                  refine (win35_at _ _ _ _ _ P3.out).mono ?_
                  rintro e wz ⟨rfl, rfl⟩
                  go_wp2_with fail
                  go_roundw
                  case rel => exact ⟨m + 1, by omega, by go_num, congrArg Value.bool (by rw [HE.out]; rfl), HA.out⟩
                  case measure => simp [intOf]; omega
          · have hor : l.length ≤ m ∨ bm = false := by
              by_cases h : m < l.length
              · exact .inr (by cases bm; rfl; exact absurd ⟨h, rfl⟩ hgo)
              · exact .inl (by omega)
            have HC := Lib.hid (show bm = (bB && (s.calls.take (k + 1)).all listB) by
              rw [HX.out, ← Bool.and_assoc, ← HBK.out, Bool.true_and]
              unfold listB
              rw [H6.out, HBM.out]
              exact all_cut (by rw [← HBM.out]; exact hor))
            by_cases hml : m < l.length
            · obtain rfl : bm = false := by rcases hor with h | h; omega; exact h
              clear hor hgo
              go_wp2_with fail
              go_roundw
              case rel => exact ⟨k + 1, by omega, by go_num, congrArg Value.bool HC.out, HD.out⟩
              case measure => simp [intOf]; omega
            · clear hor hgo
              go_wp2_with fail
              go_roundw
              case rel => exact ⟨k + 1, by omega, by go_num, congrArg Value.bool HC.out, HD.out⟩
              case measure => simp [intOf]; omega
      · have hor : s.calls.length ≤ k ∨ bk = false := by
          by_cases h : k < s.calls.length
          · exact .inr (by cases bk; rfl; exact absurd ⟨h, rfl⟩ hgo)
          · exact .inl (by omega)
        have HC := Lib.hid (show bk = (bB && b4) by rw [HBK.out, ← H4.out]; exact all_cut (by rw [← HBK.out]; exact hor))
        by_cases hkl : k < s.calls.length
        · obtain rfl : bk = false := by rcases hor with h | h; omega; exact h
          clear hor hgo
          go_wp2_with fail
          go_loopw [3, 7] (fun o i wr => ∃ m : Nat, m ≤ s.picks.length ∧ i = .int .i64 m ∧ o = .bool ((bB && b4) && (s.picks.take m).all (fun n => win n 0 255)) ∧ Below W.heap.size W wr) (fun _ i _ => s.picks.length - (intOf i).toNat)
          case atStart => exact ⟨0, Nat.zero_le _, rfl, by rw [← HC.out]; simp, HB.out⟩
          case round =>
            obtain ⟨m, hm, rfl, rfl, hb⟩ := hrel
            have HD := Lib.hid hb
            have q3 := below_cell hb (Nat.le_refl _) TC.out.2.2.2
            clear hb
            obtain ⟨bm, hbm⟩ : ∃ b, b = ((bB && b4) && (s.picks.take m).all (fun n => win n 0 255)) := ⟨_, rfl⟩
            have HBM := Lib.hid hbm
            rw [← hbm]
            clear hbm
            by_cases hgo2 : m < s.picks.length ∧ bm = true
            · obtain ⟨hml, rfl⟩ := hgo2
              obtain ⟨g, off, x, rfl, hx, d0⟩ := (PP.out.below HD.out).at hml
              have j0 : (0 : Int) ≤ (m : Int) := by omega
              have j1 : (m : Int) < (s.picks.length : Int) := by omega
              have HE := Lib.hid (show ((bB && b4) && (s.picks.take (m + 1)).all (fun n => win n 0 255)) = win x 0 255 by rw [all_take (p := fun n => win n 0 255) hx, ← Bool.and_assoc, ← HBM.out, Bool.true_and])
              clear hx
              go_wp2_with fail
              refine (win35_at _ _ _ _ _ rfl).mono ?_
              rintro e wz ⟨rfl, rfl⟩
              go_wp2_with fail
              go_roundw
              case rel => exact ⟨m + 1, by omega, by go_num, congrArg Value.bool HE.out.symm, HD.out⟩
              case measure => simp [intOf]; omega
            · have hor : s.picks.length ≤ m ∨ bm = false := by
                by_cases h : m < s.picks.length
                · exact .inr (by cases bm; rfl; exact absurd ⟨h, rfl⟩ hgo2)
                · exact .inl (by omega)
              have HC2 := Lib.hid (show (bB && (b4 && b5)) = bm by rw [← Bool.and_assoc, HBM.out, ← H5.out]; exact (all_cut (by rw [← HBM.out]; exact hor)).symm)
              by_cases hml : m < s.picks.length
              · obtain rfl : bm = false := by rcases hor with h | h; omega; exact h
                clear hor hgo2
                go_wp2_with fail
                go_ret
                exact ⟨ret1 (by rw [hR2.out, HC2.out]; rfl), on BW.out HD.out⟩
              · clear hor hgo2
                cases bm with
                | true =>
                  go_wp2_with fail
                  go_ret
                  exact ⟨ret1 (by rw [hR2.out, HC2.out]; rfl), on BW.out HD.out⟩
                | false =>
                  go_wp2_with fail
                  go_ret
                  exact ⟨ret1 (by rw [hR2.out, HC2.out]; rfl), on BW.out HD.out⟩
        · clear hor hgo
          go_wp2_with fail
          go_loopw [3, 7] (fun o i wr => ∃ m : Nat, m ≤ s.picks.length ∧ i = .int .i64 m ∧ o = .bool ((bB && b4) && (s.picks.take m).all (fun n => win n 0 255)) ∧ Below W.heap.size W wr) (fun _ i _ => s.picks.length - (intOf i).toNat)
          case atStart => exact ⟨0, Nat.zero_le _, rfl, by rw [← HC.out]; simp, HB.out⟩
          case round =>
            obtain ⟨m, hm, rfl, rfl, hb⟩ := hrel
            have HD := Lib.hid hb
            have q3 := below_cell hb (Nat.le_refl _) TC.out.2.2.2
            clear hb
            obtain ⟨bm, hbm⟩ : ∃ b, b = ((bB && b4) && (s.picks.take m).all (fun n => win n 0 255)) := ⟨_, rfl⟩
            have HBM := Lib.hid hbm
            rw [← hbm]
            clear hbm
            by_cases hgo2 : m < s.picks.length ∧ bm = true
            · obtain ⟨hml, rfl⟩ := hgo2
              obtain ⟨g, off, x, rfl, hx, d0⟩ := (PP.out.below HD.out).at hml
              have j0 : (0 : Int) ≤ (m : Int) := by omega
              have j1 : (m : Int) < (s.picks.length : Int) := by omega
              have HE := Lib.hid (show ((bB && b4) && (s.picks.take (m + 1)).all (fun n => win n 0 255)) = win x 0 255 by rw [all_take (p := fun n => win n 0 255) hx, ← Bool.and_assoc, ← HBM.out, Bool.true_and])
              clear hx
              go_wp2_with fail
              refine (win35_at _ _ _ _ _ rfl).mono ?_
              rintro e wz ⟨rfl, rfl⟩
              go_wp2_with fail
              go_roundw
              case rel => exact ⟨m + 1, by omega, by go_num, congrArg Value.bool HE.out.symm, HD.out⟩
              case measure => simp [intOf]; omega
            · have hor : s.picks.length ≤ m ∨ bm = false := by
                by_cases h : m < s.picks.length
                · exact .inr (by cases bm; rfl; exact absurd ⟨h, rfl⟩ hgo2)
                · exact .inl (by omega)
              have HC2 := Lib.hid (show (bB && (b4 && b5)) = bm by rw [← Bool.and_assoc, HBM.out, ← H5.out]; exact (all_cut (by rw [← HBM.out]; exact hor)).symm)
              by_cases hml : m < s.picks.length
              · obtain rfl : bm = false := by rcases hor with h | h; omega; exact h
                clear hor hgo2
                go_wp2_with fail
                go_ret
                exact ⟨ret1 (by rw [hR2.out, HC2.out]; rfl), on BW.out HD.out⟩
              · clear hor hgo2
                cases bm with
                | true =>
                  go_wp2_with fail
                  go_ret
                  exact ⟨ret1 (by rw [hR2.out, HC2.out]; rfl), on BW.out HD.out⟩
                | false =>
                  go_wp2_with fail
                  go_ret
                  exact ⟨ret1 (by rw [hR2.out, HC2.out]; rfl), on BW.out HD.out⟩
end Go.Proofs.Ytdjhkiahpidldaa
