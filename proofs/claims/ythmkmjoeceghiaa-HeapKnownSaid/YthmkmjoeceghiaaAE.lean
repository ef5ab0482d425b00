/- HeapOrder. -/
import Derived.Test.YthmkmjoeceghiaaAD
import Derived.Test.YthmkmjoeceghiaaJ
namespace Go.Proofs.Ythmkmjoeceghiaa
open Go.RowKit Go.Shelf Go.Maps

theorem give_mem {S : List Ob} {o x : Ob} : x ∈ doS S (1, o) ↔ x = o ∨ x ∈ S := by
  by_cases h : o ∈ S
  · have : doS S (1, o) = S := by simp [doS, doE, h]
    rw [this]
    exact ⟨.inr, fun e => e.elim (fun e => e ▸ h) id⟩
  · have : doS S (1, o) = putL S o := by simp [doS, doE, h]
    rw [this]
    exact mem_putL S o x
theorem doS_up {S : List Ob} (h : Up S) (d : Dd) : Up (doS S d) := by
  unfold doS
  split
  · exact h
  · rename_i he
    split
    · rename_i h1
      refine putL_up h _ fun hm => ?_
      apply he
      simp [doE, h1, hm]
    · split
      · exact dropL_up h _
      · exact h
set_option maxRecDepth 100000 in
set_option maxHeartbeats 4000000 in
theorem heaporder_any (l : List Dd) (a : Option Addr) (cap : Nat) (c : Int) (w : World) (hl : l.length < 5000000000000) (hw : WfD l) (hI : IsDeeds w a l) :
    Calls Try.prog 5 #[.slice a l.length cap, .int .i64 c] w fun e w' => e = .returned (.bool true) ∧ Below w.heap.size w w' := by
  have HI := Lib.hid hI
  have HWF := Lib.hid hw
  have hlm : l.length ≤ 9223372036854775807 := by omega
  obtain ⟨n, hn⟩ : ∃ n, n = min l.length 100 := ⟨_, rfl⟩
  have hn1 : n ≤ l.length := by omega
  have hn2 : n ≤ 100 := by omega
  have hn3 : n < 100 → l.length ≤ n := by omega
  clear hI hw hn
  go_enter Try.func5, Try.ntmps5
  go_wp2_with fail
  refine (new_any w).mono ?_
  rintro e w1 ⟨rfl, hH, hb⟩
  have H1 := Lib.hid hH
  have B1 := Lib.hid hb
  clear hH hb
  go_wp2_with fail
  go_loopw [6] (fun iv wr => ∃ (k : Nat) (S : List Ob), k ≤ n ∧ iv = .int .i64 k ∧ Hp wr (w.heap.size + 1) w.heap.size k S ∧ Up S ∧ S.length ≤ k ∧ (∀ o, o ∈ S ↔ o ∈ (l.take k).map (·.2)) ∧ Below w.heap.size w wr) (fun iv _ => n - (intOf iv).toNat)
  case atStart => exact ⟨0, [], Nat.zero_le _, rfl, H1.out, upNil, Nat.le_refl _, by simp, B1.out⟩
  case round =>
    clear H1 B1
    obtain ⟨k, S, hk, rfl, hH, hU, hSl, hmem, hB⟩ := hrel
    have HH := Lib.hid hH
    have HU := Lib.hid hU
    have HM := Lib.hid hmem
    have BB := Lib.hid hB
    clear hH hU hmem hB
    by_cases hlt : k < n
    · obtain ⟨⟨x0, o0, o1, o2⟩, hx⟩ : ∃ x, l[k]? = some x := ⟨_, List.getElem?_eq_getElem (by omega)⟩
      obtain ⟨g, off, rfl, hc⟩ := (HI.out.below BB.out) (by intro e; rw [e] at hx; simp at hx)
      obtain ⟨d0, d1, d2, d3⟩ := hc k _ hx
      have HT := Lib.hid (take_succ hx)
      have hwo := HWF.out _ (List.mem_of_getElem? hx)
      have i0' : (0 : Int) ≤ (k : Int) := by omega
      have i1 : (k : Int) < (l.length : Int) := by omega
      have i80 : (k : Int) < 100 := by omega
      have hdo := do_any (w.heap.size + 1) w.heap.size k S (1, o0, o1, o2) wr HH.out hwo (by unfold maxLen; omega)
      dsimp only at d0 d1 d2 d3
      clear hx hc
      go_wp2_with fail
      refine hdo.mono ?_
      rintro e w2 ⟨rfl, hH2, hg2⟩
      have H2 := Lib.hid hH2
      have hs2 := BB.out.size
      have B2 := Lib.hid (BB.out.grown hg2 hs2 (fun k e => by cases e; exact Nat.le_refl _))
      clear hdo hH2 hg2
      go_wp2_with fail
      go_roundw
      case rel => exact ⟨k + 1, _, by omega, by go_num, H2.out, doS_up HU.out _, by have := len_doS S (1, o0, o1, o2); omega, fun o => by rw [give_mem, HT.out, HM.out o]; simp; exact or_comm, B2.out⟩
      case measure => simp [intOf]; omega
    · obtain rfl : k = n := by omega
      have hdec : (decide ((k : Int) < (l.length : Int)) && decide ((k : Int) < 100)) = false := by
        rw [Bool.and_eq_false_iff, decide_eq_false_iff_not, decide_eq_false_iff_not]; omega
      have hout := out_any (w.heap.size + 1) w.heap.size k S wr HH.out HU.out (by omega) (by omega)
      have hsz := BB.out.size
      by_cases hlk : (k : Int) < (l.length : Int)
      · have hk100 : ¬ (k : Int) < 100 := by omega
        go_wp2_with fail
        refine hout.mono ?_
        rintro e w2 ⟨v, rfl, hO, hb⟩
        obtain ⟨ao, co, rfl, hc1, hc2⟩ := owns_form hO
        unfold maxLen at hc2
        have O2 := Lib.hid hO
        have H2 := Lib.hid (HH.out.below hb)
        have B2 := Lib.hid (on2 BB.out hb)
        clear hb hO hout HH BB
        go_wp2_with fail
        go_loopw [8, 9] (fun nv iv wx => ∃ i : Nat, i ≤ S.length ∧ iv = .int .i64 i ∧ nv = .int .i64 (manyL (S.take i) c) ∧ Below w2.heap.size w2 wx) (fun _ iv _ => S.length - (intOf iv).toNat)
        case atStart => exact ⟨0, Nat.zero_le _, rfl, rfl, Below.refl _ _⟩
        case round =>
          obtain ⟨i, hi, rfl, rfl, hbx⟩ := hrel
          have BX := Lib.hid hbx
          have hml : manyL (S.take i) c ≤ i := by have := manyL_le (S.take i) c; rw [List.length_take] at this; omega
          clear hbx
          by_cases hli : i < S.length
          · obtain ⟨x, hx⟩ : ∃ x, S[i]? = some x := ⟨_, List.getElem?_eq_getElem hli⟩
            have hxm := List.mem_of_getElem? hx
            have HAS := Lib.hid (show ∀ W, Below w2.heap.size w2 W → Calls Try.prog 24 #[.pointer (some ⟨w.heap.size + 1, 0, none⟩), obV x] W fun e w' => e = .returned (.bool true) ∧ Below W.heap.size W w' from fun W hb => by
              have := has_any (w.heap.size + 1) w.heap.size k S x W (H2.out.below hb) (H2.out.wf x hxm)
              rwa [decide_eq_true hxm] at this)
            obtain ⟨g, rfl, d0, d1, d2⟩ := ob_cells O2.out hx rfl
            replace d0 := below_cell BX.out (Nat.le_refl _) d0
            replace d1 := below_cell BX.out (Nat.le_refl _) d1
            replace d2 := below_cell BX.out (Nat.le_refl _) d2
            have HT := Lib.hid (take_succ hx)
            have HX := Lib.hid hx
            obtain ⟨x0, x1, x2⟩ := x
            dsimp only at d0 d1 d2
            have j0 : (0 : Int) ≤ (i : Int) := by omega
            have j1 : (i : Int) < (S.length : Int) := by omega
            have hsx := BX.out.size
            have ba : Below w2.heap.size w2 (wr.alloc (.cells #[.int .i64 x0, .int .i64 x1, .int .i64 x2] 30)) := BX.out.alloc hsx _
            clear hx hxm
            by_cases hcx : x0 = c
            · have HM := Lib.hid (show manyL (S.take (i + 1)) c = manyL (S.take i) c + 1 by rw [HT.out, manyL_snoc, if_pos hcx])
              have hE : (x0 == c) = true := by simpa using hcx
              clear hcx
              go_wp2_with fail
              refine (HAS.out _ ba).mono ?_
              rintro e w3 ⟨rfl, hb3⟩
              have b3 : Below w2.heap.size w2 w3 := on2 ba hb3
              have TA := (Blk.new wr #[.int .i64 x0, .int .i64 x1, .int .i64 x2] 30).below hb3
              have a0 := TA.cell (i := 0) rfl
              have a1 := TA.cell (i := 1) rfl
              have a2 := TA.cell (i := 2) rfl
              simp at a0 a1 a2
              have B3 := Lib.hid b3
              have hs3 := b3.size
              clear b3 TA hb3 ba d0 d1 d2
              rcases Nat.eq_zero_or_pos i with hi0 | hi0
              · have hi1 : ¬ (0 : Int) < (i : Int) := by omega
                clear hi0
                go_wp2_with fail
                go_roundw
                case rel => exact ⟨i + 1, by omega, by go_num, by rw [HM.out]; (try go_num), B3.out⟩
                case measure => simp [intOf]; omega
              · have hi1 : (0 : Int) < (i : Int) := by omega
                have m0 : (0 : Int) ≤ (i : Int) - 1 := by omega
                have m1 : (i : Int) - 1 < (S.length : Int) := by omega
                have m2 : ((i : Int) - 1).toNat = i - 1 := by omega
                obtain ⟨⟨p0, p1, p2⟩, hp⟩ : ∃ p, S[i - 1]? = some p := ⟨_, List.getElem?_eq_getElem (by omega)⟩
                have hah : ahead (p0, p1, p2) (x0, x1, x2) = true := by
                  have h1 := List.pairwise_iff_getElem.1 HU.out (i - 1) i (by omega) (by omega) (by omega)
                  rwa [(List.getElem?_eq_some_iff.1 hp).2, (List.getElem?_eq_some_iff.1 HX.out).2] at h1
                rw [ahead_iff] at hah
                dsimp only at hah
                obtain ⟨g', hge, q0, q1, q2⟩ := ob_cells O2.out hp rfl
                obtain rfl : g = g' := by simpa using hge
                replace q0 := below_cell B3.out (Nat.le_refl _) q0
                replace q1 := below_cell B3.out (Nat.le_refl _) q1
                replace q2 := below_cell B3.out (Nat.le_refl _) q2
                dsimp only at q0 q1 q2
                clear hp hge
                have bb3 : Below w2.heap.size w2 (w3.alloc (.cells #[.int .i64 p0, .int .i64 p1, .int .i64 p2] 30)) := B3.out.alloc hs3 _
                have ha3 : Below w3.heap.size w3 (w3.alloc (.cells #[.int .i64 p0, .int .i64 p1, .int .i64 p2] 30)) := (Below.refl _ _).alloc (Nat.le_refl _) _
                have r0 := below_cell ha3 (Nat.le_refl _) a0
                have r1 := below_cell ha3 (Nat.le_refl _) a1
                have r2 := below_cell ha3 (Nat.le_refl _) a2
                have BB3 := Lib.hid bb3
                clear bb3 ha3
                rcases hah with h1 | ⟨h1, h2 | ⟨h2, h3⟩⟩
                · have e1 : ¬ x0 < p0 := by omega
                  have e2 : (p0 == x0) = false := by simp; omega
                  go_wp2_with fail
                  go_roundw
                  case rel => exact ⟨i + 1, by omega, by go_num, by rw [HM.out]; (try go_num), BB3.out⟩
                  case measure => simp [intOf]; omega
                · have e1 : ¬ x0 < p0 := by omega
                  have e2 : (p0 == x0) = true := by simp; omega
                  have e3 : ¬ x1 < p1 := by omega
                  have e4 : (p1 == x1) = false := by simp; omega
                  clear h1
                  go_wp2_with fail
                  go_roundw
                  case rel => exact ⟨i + 1, by omega, by go_num, by rw [HM.out]; (try go_num), BB3.out⟩
                  case measure => simp [intOf]; omega
                · have e1 : ¬ x0 < p0 := by omega
                  have e2 : (p0 == x0) = true := by simp; omega
                  have e3 : ¬ x1 < p1 := by omega
                  have e4 : (p1 == x1) = true := by simp; omega
                  have e5 : ¬ x2 ≤ p2 := by omega
                  clear h1 h2
                  go_wp2_with fail
                  go_roundw
                  case rel => exact ⟨i + 1, by omega, by go_num, by rw [HM.out]; (try go_num), BB3.out⟩
                  case measure => simp [intOf]; omega
            · have HM := Lib.hid (show manyL (S.take (i + 1)) c = manyL (S.take i) c by rw [HT.out, manyL_snoc, if_neg hcx]; rfl)
              have hE : (x0 == c) = false := by simpa using hcx
              clear hcx
              go_wp2_with fail
              refine (HAS.out _ ba).mono ?_
              rintro e w3 ⟨rfl, hb3⟩
              have b3 : Below w2.heap.size w2 w3 := on2 ba hb3
              have TA := (Blk.new wr #[.int .i64 x0, .int .i64 x1, .int .i64 x2] 30).below hb3
              have a0 := TA.cell (i := 0) rfl
              have a1 := TA.cell (i := 1) rfl
              have a2 := TA.cell (i := 2) rfl
              simp at a0 a1 a2
              have B3 := Lib.hid b3
              have hs3 := b3.size
              clear b3 TA hb3 ba d0 d1 d2
              rcases Nat.eq_zero_or_pos i with hi0 | hi0
              · have hi1 : ¬ (0 : Int) < (i : Int) := by omega
                clear hi0
                go_wp2_with fail
                go_roundw
                case rel => exact ⟨i + 1, by omega, by go_num, by rw [HM.out]; (try rfl), B3.out⟩
                case measure => simp [intOf]; omega
              · have hi1 : (0 : Int) < (i : Int) := by omega
                have m0 : (0 : Int) ≤ (i : Int) - 1 := by omega
                have m1 : (i : Int) - 1 < (S.length : Int) := by omega
                have m2 : ((i : Int) - 1).toNat = i - 1 := by omega
                obtain ⟨⟨p0, p1, p2⟩, hp⟩ : ∃ p, S[i - 1]? = some p := ⟨_, List.getElem?_eq_getElem (by omega)⟩
                have hah : ahead (p0, p1, p2) (x0, x1, x2) = true := by
                  have h1 := List.pairwise_iff_getElem.1 HU.out (i - 1) i (by omega) (by omega) (by omega)
                  rwa [(List.getElem?_eq_some_iff.1 hp).2, (List.getElem?_eq_some_iff.1 HX.out).2] at h1
                rw [ahead_iff] at hah
                dsimp only at hah
                obtain ⟨g', hge, q0, q1, q2⟩ := ob_cells O2.out hp rfl
                obtain rfl : g = g' := by simpa using hge
                replace q0 := below_cell B3.out (Nat.le_refl _) q0
                replace q1 := below_cell B3.out (Nat.le_refl _) q1
                replace q2 := below_cell B3.out (Nat.le_refl _) q2
                dsimp only at q0 q1 q2
                clear hp hge
                have bb3 : Below w2.heap.size w2 (w3.alloc (.cells #[.int .i64 p0, .int .i64 p1, .int .i64 p2] 30)) := B3.out.alloc hs3 _
                have ha3 : Below w3.heap.size w3 (w3.alloc (.cells #[.int .i64 p0, .int .i64 p1, .int .i64 p2] 30)) := (Below.refl _ _).alloc (Nat.le_refl _) _
                have r0 := below_cell ha3 (Nat.le_refl _) a0
                have r1 := below_cell ha3 (Nat.le_refl _) a1
                have r2 := below_cell ha3 (Nat.le_refl _) a2
                have BB3 := Lib.hid bb3
                clear bb3 ha3
                rcases hah with h1 | ⟨h1, h2 | ⟨h2, h3⟩⟩
                · have e1 : ¬ x0 < p0 := by omega
                  have e2 : (p0 == x0) = false := by simp; omega
                  go_wp2_with fail
                  go_roundw
                  case rel => exact ⟨i + 1, by omega, by go_num, by rw [HM.out]; (try rfl), BB3.out⟩
                  case measure => simp [intOf]; omega
                · have e1 : ¬ x0 < p0 := by omega
                  have e2 : (p0 == x0) = true := by simp; omega
                  have e3 : ¬ x1 < p1 := by omega
                  have e4 : (p1 == x1) = false := by simp; omega
                  clear h1
                  go_wp2_with fail
                  go_roundw
                  case rel => exact ⟨i + 1, by omega, by go_num, by rw [HM.out]; (try rfl), BB3.out⟩
                  case measure => simp [intOf]; omega
                · have e1 : ¬ x0 < p0 := by omega
                  have e2 : (p0 == x0) = true := by simp; omega
                  have e3 : ¬ x1 < p1 := by omega
                  have e4 : (p1 == x1) = true := by simp; omega
                  have e5 : ¬ x2 ≤ p2 := by omega
                  clear h1 h2
                  go_wp2_with fail
                  go_roundw
                  case rel => exact ⟨i + 1, by omega, by go_num, by rw [HM.out]; (try rfl), BB3.out⟩
                  case measure => simp [intOf]; omega
          · obtain rfl : i = S.length := by omega
            have hts : manyL (S.take S.length) c = manyL S c := by rw [List.take_length]
            have B4 := Lib.hid (on2 B2.out BX.out)
            have H4 := Lib.hid (H2.out.below BX.out)
            rw [hts]
            clear hts
            go_wp2_with fail
            go_loopw [12] (fun iv wx => ∃ i : Nat, i ≤ k ∧ iv = .int .i64 i ∧ Below w2.heap.size w2 wx) (fun iv _ => k - (intOf iv).toNat)
            case atStart => exact ⟨0, Nat.zero_le _, rfl, BX.out⟩
            case round =>
              obtain ⟨i, hi, rfl, hbx⟩ := hrel
              have BY := Lib.hid hbx
              clear hbx
              by_cases hli : i < k
              · obtain ⟨⟨x0, o0, o1, o2⟩, hx⟩ : ∃ x, l[i]? = some x := ⟨_, List.getElem?_eq_getElem (by omega)⟩
                obtain ⟨g, off, rfl, hc⟩ := (HI.out.below (on2 B2.out BY.out)) (by intro e; rw [e] at hx; simp at hx)
                obtain ⟨d0, d1, d2, d3⟩ := hc i _ hx
                have hm : (o0, o1, o2) ∈ S := (HM.out _).2 (List.mem_map.2 ⟨_, List.mem_of_getElem? (show (l.take k)[i]? = some _ by rw [List.getElem?_take, if_pos hli]; exact hx), rfl⟩)
                have hhas := has_any (w.heap.size + 1) w.heap.size k S (o0, o1, o2) _ (H2.out.below BY.out) (HWF.out _ (List.mem_of_getElem? hx))
                rw [decide_eq_true hm] at hhas
                have j0 : (0 : Int) ≤ (i : Int) := by omega
                have j1 : (i : Int) < (l.length : Int) := by omega
                have j2 : (i : Int) < 100 := by omega
                dsimp only at d0 d1 d2 d3
                clear hx hc hm
                go_wp2_with fail
                refine hhas.mono ?_
                rintro e w3 ⟨rfl, hb3⟩
                have B5 := Lib.hid (on2 BY.out hb3)
                clear hhas hb3
                go_wp2_with fail
                go_roundw
                case rel => exact ⟨i + 1, by omega, by go_num, B5.out⟩
                case measure => simp [intOf]; omega
              · obtain rfl : i = k := by omega
                have hmn := many_any (w.heap.size + 1) w.heap.size i S c _ (H2.out.below BY.out) (by omega) HU.out.nodup
                go_wp2_with fail
                refine hmn.mono ?_
                rintro e w3 ⟨rfl, hb3⟩
                have B5 := Lib.hid (on2 B2.out (on2 BY.out hb3))
                clear hmn hb3
                go_wp2_with fail
                refine (works_any _).mono ?_
                rintro e w4 ⟨rfl, hb4⟩
                have B6 := Lib.hid (on2 B5.out hb4)
                clear hb4
                go_wp2_with fail
                go_ret
                exact ⟨rfl, B6.out⟩
      · skip
        go_wp2_with fail
        refine hout.mono ?_
        rintro e w2 ⟨v, rfl, hO, hb⟩
        obtain ⟨ao, co, rfl, hc1, hc2⟩ := owns_form hO
        unfold maxLen at hc2
        have O2 := Lib.hid hO
        have H2 := Lib.hid (HH.out.below hb)
        have B2 := Lib.hid (on2 BB.out hb)
        clear hb hO hout HH BB
        go_wp2_with fail
        go_loopw [8, 9] (fun nv iv wx => ∃ i : Nat, i ≤ S.length ∧ iv = .int .i64 i ∧ nv = .int .i64 (manyL (S.take i) c) ∧ Below w2.heap.size w2 wx) (fun _ iv _ => S.length - (intOf iv).toNat)
        case atStart => exact ⟨0, Nat.zero_le _, rfl, rfl, Below.refl _ _⟩
        case round =>
          obtain ⟨i, hi, rfl, rfl, hbx⟩ := hrel
          have BX := Lib.hid hbx
          have hml : manyL (S.take i) c ≤ i := by have := manyL_le (S.take i) c; rw [List.length_take] at this; omega
          clear hbx
          by_cases hli : i < S.length
          · obtain ⟨x, hx⟩ : ∃ x, S[i]? = some x := ⟨_, List.getElem?_eq_getElem hli⟩
            have hxm := List.mem_of_getElem? hx
            have HAS := Lib.hid (show ∀ W, Below w2.heap.size w2 W → Calls Try.prog 24 #[.pointer (some ⟨w.heap.size + 1, 0, none⟩), obV x] W fun e w' => e = .returned (.bool true) ∧ Below W.heap.size W w' from fun W hb => by
              have := has_any (w.heap.size + 1) w.heap.size k S x W (H2.out.below hb) (H2.out.wf x hxm)
              rwa [decide_eq_true hxm] at this)
            obtain ⟨g, rfl, d0, d1, d2⟩ := ob_cells O2.out hx rfl
            replace d0 := below_cell BX.out (Nat.le_refl _) d0
            replace d1 := below_cell BX.out (Nat.le_refl _) d1
            replace d2 := below_cell BX.out (Nat.le_refl _) d2
            have HT := Lib.hid (take_succ hx)
            have HX := Lib.hid hx
            obtain ⟨x0, x1, x2⟩ := x
            dsimp only at d0 d1 d2
            have j0 : (0 : Int) ≤ (i : Int) := by omega
            have j1 : (i : Int) < (S.length : Int) := by omega
            have hsx := BX.out.size
            have ba : Below w2.heap.size w2 (wr.alloc (.cells #[.int .i64 x0, .int .i64 x1, .int .i64 x2] 30)) := BX.out.alloc hsx _
            clear hx hxm
            by_cases hcx : x0 = c
            · have HM := Lib.hid (show manyL (S.take (i + 1)) c = manyL (S.take i) c + 1 by rw [HT.out, manyL_snoc, if_pos hcx])
              have hE : (x0 == c) = true := by simpa using hcx
              clear hcx
              go_wp2_with fail
              refine (HAS.out _ ba).mono ?_
              rintro e w3 ⟨rfl, hb3⟩
              have b3 : Below w2.heap.size w2 w3 := on2 ba hb3
              have TA := (Blk.new wr #[.int .i64 x0, .int .i64 x1, .int .i64 x2] 30).below hb3
              have a0 := TA.cell (i := 0) rfl
              have a1 := TA.cell (i := 1) rfl
              have a2 := TA.cell (i := 2) rfl
              simp at a0 a1 a2
              have B3 := Lib.hid b3
              have hs3 := b3.size
              clear b3 TA hb3 ba d0 d1 d2
              rcases Nat.eq_zero_or_pos i with hi0 | hi0
              · have hi1 : ¬ (0 : Int) < (i : Int) := by omega
                clear hi0
                go_wp2_with fail
                go_roundw
                case rel => exact ⟨i + 1, by omega, by go_num, by rw [HM.out]; (try go_num), B3.out⟩
                case measure => simp [intOf]; omega
              · have hi1 : (0 : Int) < (i : Int) := by omega
                have m0 : (0 : Int) ≤ (i : Int) - 1 := by omega
                have m1 : (i : Int) - 1 < (S.length : Int) := by omega
                have m2 : ((i : Int) - 1).toNat = i - 1 := by omega
                obtain ⟨⟨p0, p1, p2⟩, hp⟩ : ∃ p, S[i - 1]? = some p := ⟨_, List.getElem?_eq_getElem (by omega)⟩
                have hah : ahead (p0, p1, p2) (x0, x1, x2) = true := by
                  have h1 := List.pairwise_iff_getElem.1 HU.out (i - 1) i (by omega) (by omega) (by omega)
                  rwa [(List.getElem?_eq_some_iff.1 hp).2, (List.getElem?_eq_some_iff.1 HX.out).2] at h1
                rw [ahead_iff] at hah
                dsimp only at hah
                obtain ⟨g', hge, q0, q1, q2⟩ := ob_cells O2.out hp rfl
                obtain rfl : g = g' := by simpa using hge
                replace q0 := below_cell B3.out (Nat.le_refl _) q0
                replace q1 := below_cell B3.out (Nat.le_refl _) q1
                replace q2 := below_cell B3.out (Nat.le_refl _) q2
                dsimp only at q0 q1 q2
                clear hp hge
                have bb3 : Below w2.heap.size w2 (w3.alloc (.cells #[.int .i64 p0, .int .i64 p1, .int .i64 p2] 30)) := B3.out.alloc hs3 _
                have ha3 : Below w3.heap.size w3 (w3.alloc (.cells #[.int .i64 p0, .int .i64 p1, .int .i64 p2] 30)) := (Below.refl _ _).alloc (Nat.le_refl _) _
                have r0 := below_cell ha3 (Nat.le_refl _) a0
                have r1 := below_cell ha3 (Nat.le_refl _) a1
                have r2 := below_cell ha3 (Nat.le_refl _) a2
                have BB3 := Lib.hid bb3
                clear bb3 ha3
                rcases hah with h1 | ⟨h1, h2 | ⟨h2, h3⟩⟩
                · have e1 : ¬ x0 < p0 := by omega
                  have e2 : (p0 == x0) = false := by simp; omega
                  go_wp2_with fail
                  go_roundw
                  case rel => exact ⟨i + 1, by omega, by go_num, by rw [HM.out]; (try go_num), BB3.out⟩
                  case measure => simp [intOf]; omega
                · have e1 : ¬ x0 < p0 := by omega
                  have e2 : (p0 == x0) = true := by simp; omega
                  have e3 : ¬ x1 < p1 := by omega
                  have e4 : (p1 == x1) = false := by simp; omega
                  clear h1
                  go_wp2_with fail
                  go_roundw
                  case rel => exact ⟨i + 1, by omega, by go_num, by rw [HM.out]; (try go_num), BB3.out⟩
                  case measure => simp [intOf]; omega
                · have e1 : ¬ x0 < p0 := by omega
                  have e2 : (p0 == x0) = true := by simp; omega
                  have e3 : ¬ x1 < p1 := by omega
                  have e4 : (p1 == x1) = true := by simp; omega
                  have e5 : ¬ x2 ≤ p2 := by omega
                  clear h1 h2
                  go_wp2_with fail
                  go_roundw
                  case rel => exact ⟨i + 1, by omega, by go_num, by rw [HM.out]; (try go_num), BB3.out⟩
                  case measure => simp [intOf]; omega
            · have HM := Lib.hid (show manyL (S.take (i + 1)) c = manyL (S.take i) c by rw [HT.out, manyL_snoc, if_neg hcx]; rfl)
              have hE : (x0 == c) = false := by simpa using hcx
              clear hcx
              go_wp2_with fail
              refine (HAS.out _ ba).mono ?_
              rintro e w3 ⟨rfl, hb3⟩
              have b3 : Below w2.heap.size w2 w3 := on2 ba hb3
              have TA := (Blk.new wr #[.int .i64 x0, .int .i64 x1, .int .i64 x2] 30).below hb3
              have a0 := TA.cell (i := 0) rfl
              have a1 := TA.cell (i := 1) rfl
              have a2 := TA.cell (i := 2) rfl
              simp at a0 a1 a2
              have B3 := Lib.hid b3
              have hs3 := b3.size
              clear b3 TA hb3 ba d0 d1 d2
              rcases Nat.eq_zero_or_pos i with hi0 | hi0
              · have hi1 : ¬ (0 : Int) < (i : Int) := by omega
                clear hi0
                go_wp2_with fail
                go_roundw
                case rel => exact ⟨i + 1, by omega, by go_num, by rw [HM.out]; (try rfl), B3.out⟩
                case measure => simp [intOf]; omega
              · have hi1 : (0 : Int) < (i : Int) := by omega
                have m0 : (0 : Int) ≤ (i : Int) - 1 := by omega
                have m1 : (i : Int) - 1 < (S.length : Int) := by omega
                have m2 : ((i : Int) - 1).toNat = i - 1 := by omega
                obtain ⟨⟨p0, p1, p2⟩, hp⟩ : ∃ p, S[i - 1]? = some p := ⟨_, List.getElem?_eq_getElem (by omega)⟩
                have hah : ahead (p0, p1, p2) (x0, x1, x2) = true := by
                  have h1 := List.pairwise_iff_getElem.1 HU.out (i - 1) i (by omega) (by omega) (by omega)
                  rwa [(List.getElem?_eq_some_iff.1 hp).2, (List.getElem?_eq_some_iff.1 HX.out).2] at h1
                rw [ahead_iff] at hah
                dsimp only at hah
                obtain ⟨g', hge, q0, q1, q2⟩ := ob_cells O2.out hp rfl
                obtain rfl : g = g' := by simpa using hge
                replace q0 := below_cell B3.out (Nat.le_refl _) q0
                replace q1 := below_cell B3.out (Nat.le_refl _) q1
                replace q2 := below_cell B3.out (Nat.le_refl _) q2
                dsimp only at q0 q1 q2
                clear hp hge
                have bb3 : Below w2.heap.size w2 (w3.alloc (.cells #[.int .i64 p0, .int .i64 p1, .int .i64 p2] 30)) := B3.out.alloc hs3 _
                have ha3 : Below w3.heap.size w3 (w3.alloc (.cells #[.int .i64 p0, .int .i64 p1, .int .i64 p2] 30)) := (Below.refl _ _).alloc (Nat.le_refl _) _
                have r0 := below_cell ha3 (Nat.le_refl _) a0
                have r1 := below_cell ha3 (Nat.le_refl _) a1
                have r2 := below_cell ha3 (Nat.le_refl _) a2
                have BB3 := Lib.hid bb3
                clear bb3 ha3
                rcases hah with h1 | ⟨h1, h2 | ⟨h2, h3⟩⟩
                · have e1 : ¬ x0 < p0 := by omega
                  have e2 : (p0 == x0) = false := by simp; omega
                  go_wp2_with fail
                  go_roundw
                  case rel => exact ⟨i + 1, by omega, by go_num, by rw [HM.out]; (try rfl), BB3.out⟩
                  case measure => simp [intOf]; omega
                · have e1 : ¬ x0 < p0 := by omega
                  have e2 : (p0 == x0) = true := by simp; omega
                  have e3 : ¬ x1 < p1 := by omega
                  have e4 : (p1 == x1) = false := by simp; omega
                  clear h1
                  go_wp2_with fail
                  go_roundw
                  case rel => exact ⟨i + 1, by omega, by go_num, by rw [HM.out]; (try rfl), BB3.out⟩
                  case measure => simp [intOf]; omega
                · have e1 : ¬ x0 < p0 := by omega
                  have e2 : (p0 == x0) = true := by simp; omega
                  have e3 : ¬ x1 < p1 := by omega
                  have e4 : (p1 == x1) = true := by simp; omega
                  have e5 : ¬ x2 ≤ p2 := by omega
                  clear h1 h2
                  go_wp2_with fail
                  go_roundw
                  case rel => exact ⟨i + 1, by omega, by go_num, by rw [HM.out]; (try rfl), BB3.out⟩
                  case measure => simp [intOf]; omega
          · obtain rfl : i = S.length := by omega
            have hts : manyL (S.take S.length) c = manyL S c := by rw [List.take_length]
            have B4 := Lib.hid (on2 B2.out BX.out)
            have H4 := Lib.hid (H2.out.below BX.out)
            rw [hts]
            clear hts
            go_wp2_with fail
            go_loopw [12] (fun iv wx => ∃ i : Nat, i ≤ k ∧ iv = .int .i64 i ∧ Below w2.heap.size w2 wx) (fun iv _ => k - (intOf iv).toNat)
            case atStart => exact ⟨0, Nat.zero_le _, rfl, BX.out⟩
            case round =>
              obtain ⟨i, hi, rfl, hbx⟩ := hrel
              have BY := Lib.hid hbx
              clear hbx
              by_cases hli : i < k
              · obtain ⟨⟨x0, o0, o1, o2⟩, hx⟩ : ∃ x, l[i]? = some x := ⟨_, List.getElem?_eq_getElem (by omega)⟩
                obtain ⟨g, off, rfl, hc⟩ := (HI.out.below (on2 B2.out BY.out)) (by intro e; rw [e] at hx; simp at hx)
                obtain ⟨d0, d1, d2, d3⟩ := hc i _ hx
                have hm : (o0, o1, o2) ∈ S := (HM.out _).2 (List.mem_map.2 ⟨_, List.mem_of_getElem? (show (l.take k)[i]? = some _ by rw [List.getElem?_take, if_pos hli]; exact hx), rfl⟩)
                have hhas := has_any (w.heap.size + 1) w.heap.size k S (o0, o1, o2) _ (H2.out.below BY.out) (HWF.out _ (List.mem_of_getElem? hx))
                rw [decide_eq_true hm] at hhas
                have j0 : (0 : Int) ≤ (i : Int) := by omega
                have j1 : (i : Int) < (l.length : Int) := by omega
                have j2 : (i : Int) < 100 := by omega
                dsimp only at d0 d1 d2 d3
                clear hx hc hm
                go_wp2_with fail
                refine hhas.mono ?_
                rintro e w3 ⟨rfl, hb3⟩
                have B5 := Lib.hid (on2 BY.out hb3)
                clear hhas hb3
                go_wp2_with fail
                go_roundw
                case rel => exact ⟨i + 1, by omega, by go_num, B5.out⟩
                case measure => simp [intOf]; omega
              · obtain rfl : i = k := by omega
                have hmn := many_any (w.heap.size + 1) w.heap.size i S c _ (H2.out.below BY.out) (by omega) HU.out.nodup
                go_wp2_with fail
                refine hmn.mono ?_
                rintro e w3 ⟨rfl, hb3⟩
                have B5 := Lib.hid (on2 B2.out (on2 BY.out hb3))
                clear hmn hb3
                go_wp2_with fail
                refine (works_any _).mono ?_
                rintro e w4 ⟨rfl, hb4⟩
                have B6 := Lib.hid (on2 B5.out hb4)
                clear hb4
                go_wp2_with fail
                go_ret
                exact ⟨rfl, B6.out⟩
end Go.Proofs.Ythmkmjoeceghiaa
