/- HeapAlone. -/
import Derived.Test.YthmkmjoeceghiaaQ
import Derived.Test.YthmkmjoeceghiaaP
import Derived.IntWalk
namespace Go.Proofs.Ythmkmjoeceghiaa
open Go.RowKit

attribute [local go_sem ↓] Go.wp_at_zero Go.wp_at_succ
theorem set_grown (w : World) (g i : Nat) (v : Value) : w.grownBy (w.setCell ⟨g, i, none⟩ v) (some g) := ⟨rfl, rfl, rfl, by simp, fun j _ hn => Below.heap_setCell _ _ _ _ (fun e => hn (by rw [e]))⟩
/-- a deed, brought to be one -/
def br1 (d : Dd) : Dd := (1 + d.1 % 4, if 1 + d.1 % 4 = 2 then (0, 0, 0) else d.2)
theorem br1_fine (d : Dd) : Fine (br1 d) := by
  have h1 := Int.emod_nonneg d.1 (show (4 : Int) ≠ 0 by decide)
  have h2 := Int.emod_lt_of_pos d.1 (show (0 : Int) < 4 by decide)
  refine ⟨by simp only [br1]; omega, by simp only [br1]; omega, fun h => ?_⟩
  simp only [br1] at h ⊢
  rw [if_pos h]
theorem br1_wf {d : Dd} (h : WfO d.2) : WfO (br1 d).2 := by
  simp only [br1]
  split
  · exact ⟨⟨by decide, by decide⟩, ⟨by decide, by decide⟩, ⟨by decide, by decide⟩⟩
  · exact h
def eachB (l : List Dd) (k : Nat) : Bool := (l.take k).all fun d => decide ((playR (aloneL l d.2)).2 = 0)
theorem eachB_succ {l : List Dd} {k : Nat} {d : Dd} (h : l[k]? = some d) : eachB l (k + 1) = (eachB l k && decide ((playR (aloneL l d.2)).2 = 0)) := by
  unfold eachB; rw [take_succ h]; simp
theorem eachB_all (l : List Dd) (hf : ∀ d ∈ l, Fine d) : eachB l l.length = decide ((playR l).2 = 0) := by
  rw [Bool.eq_iff_iff, decide_eq_true_iff, plays_alone l hf]
  simp [eachB]
set_option maxRecDepth 100000 in
set_option maxHeartbeats 1000000 in
theorem heapalone_any (l : List Dd) (a : Option Addr) (cap : Nat) (w : World) (hl : l.length < 5000000000000) (hw : WfD l) (hI : IsDeeds w a l) :
    Calls Try.prog 4 #[.slice a l.length cap] w fun e w' => e = .returned (.bool true) ∧ Below w.heap.size w w' := by
  obtain ⟨i0, hi, hz0, hz1, hz2⟩ := info_parts info32
  have HI := Lib.hid hI
  have HWF := Lib.hid hw
  have hlm : l.length ≤ 9223372036854775807 := by omega
  obtain ⟨n, hn⟩ : ∃ n, n = min l.length 80 := ⟨_, rfl⟩
  have hn1 : n ≤ l.length := by omega
  have hn2 : n ≤ 80 := by omega
  have hn3 : n < 80 → l.length ≤ n := by omega
  clear hI hw hn
  go_enter Try.func4, Try.ntmps4
  go_wp2_with fail
  go_loopw [3, 4] (fun v i wr => ∃ k : Nat, k ≤ n ∧ i = .int .i64 k ∧ wr.ownsRow w.heap.size 32 4 v k (((l.take k).map br1).flatMap ddCells) ∧ Below w.heap.size w wr) (fun _ i _ => n - (intOf i).toNat)
  case atStart => exact ⟨0, Nat.zero_le _, rfl, World.ownsRow_nil _ _ _ _, Below.refl _ _⟩
  case round =>
    obtain ⟨k, hk, rfl, hO, hb⟩ := hrel
    have HB := Lib.hid hb
    have OU := Lib.hid hO
    clear hb hO
    by_cases hlt : k < n
    · obtain ⟨⟨x0, x1⟩, hx⟩ : ∃ x, l[k]? = some x := ⟨_, List.getElem?_eq_getElem (by omega)⟩
      obtain ⟨g, off, rfl, hc⟩ := (HI.out.below HB.out) (by intro e; rw [e] at hx; simp at hx)
      obtain ⟨d0, d1, d2, d3⟩ := hc k _ hx
      have HX := Lib.hid (take_succ hx)
      have i0' : (0 : Int) ≤ (k : Int) := by omega
      have i1 : (k : Int) < (l.length : Int) := by omega
      have i80 : (k : Int) < 80 := by omega
      dsimp only at d0 d1 d2 d3
      clear hx hc
      have e1 := Int.emod_nonneg x0 (show (4 : Int) ≠ 0 by decide)
      have e2 := Int.emod_lt_of_pos x0 (show (0 : Int) < 4 by decide)
      go_wp2_with fail
      have kS : ∀ w' : World, Below wr.heap.size wr w' → w'.cell? ⟨g, off + k * 4, none⟩ = some (.int .i64 x0) ∧ w'.cell? ⟨g, off + k * 4 + 1, none⟩ = some (.int .i64 x1.1) ∧ w'.cell? ⟨g, off + k * 4 + 2, none⟩ = some (.int .i64 x1.2.1) ∧ w'.cell? ⟨g, off + k * 4 + 3, none⟩ = some (.int .i64 x1.2.2) := fun w' h =>
        ⟨below_cell h (Nat.le_refl _) d0, below_cell h (Nat.le_refl _) d1, below_cell h (Nat.le_refl _) d2, below_cell h (Nat.le_refl _) d3⟩
      have KS := Lib.hid kS
      obtain ⟨m, hm⟩ : ∃ m, m = 1 + x0 % 4 := ⟨_, rfl⟩
      have hwr : IntKind.i64.wrap (1 + x0 % 4) = m := by rw [IntWalk.i64_in _ (by omega), hm]
      have hm1 : 1 ≤ m ∧ m ≤ 4 := by omega
      have HM := Lib.hid hm
      clear hm
      clear kS d0 d1 d2 d3
      go_region_held3 (fun w' => w'.cell? ⟨g, off + k * 4, none⟩ = some (.int .i64 x0) ∧ w'.cell? ⟨g, off + k * 4 + 1, none⟩ = some (.int .i64 x1.1) ∧ w'.cell? ⟨g, off + k * 4 + 2, none⟩ = some (.int .i64 x1.2.1) ∧ w'.cell? ⟨g, off + k * 4 + 3, none⟩ = some (.int .i64 x1.2.2))
        (exact KS.out _ (by repeat (first | exact Below.refl _ _ | assumption | refine Below.setCell ?_ (by first | omega | (simp; done) | (simp; omega)) _ | refine Below.drew ?_ | refine Below.alloc ?_ (by first | omega | (simp; done) | (simp; omega)) _ | refine Below.trans ?_ (Below.mono (by assumption) (by first | omega | (simp; done) | (simp; omega))))))
        (first | (go_at_call 19; refine (bring_any x0 4 _ (by decide) (by decide)).mono ?_; rintro e wX ⟨rfl, rfl⟩))
      all_goals
        clear hwr
        have hal : Below wr.heap.size wr (wr.alloc (.cells #[.int .i64 m, .int .i64 x1.1, .int .i64 x1.2.1, .int .i64 x1.2.2] 32)).drew := ((Below.refl _ _).alloc (Nat.le_refl _) _).drew
        have hT : Blk (wr.alloc (.cells #[.int .i64 m, .int .i64 x1.1, .int .i64 x1.2.1, .int .i64 x1.2.2] 32)).drew wr.heap.size #[.int .i64 m, .int .i64 x1.1, .int .i64 x1.2.1, .int .i64 x1.2.2] 32 := Blk.new wr _ 32
        generalize (wr.alloc (.cells #[.int .i64 m, .int .i64 x1.1, .int .i64 x1.2.1, .int .i64 x1.2.2] 32)).drew = wq at hal hT ⊢
        have OQ := owns_below OU.out hal
        have BQ := on2 HB.out hal
        have hbs := BQ.size
        have hwl := HB.out.size
        have hTl := hT.lt
        have aT : u3.ownBlock ≠ some wr.heap.size := fun e => by have := (OU.out.lt _ e).2; omega
        generalize wr.heap.size = T at hT hTl hwl aT ⊢
        have r0 := hT.cell (i := 0) rfl
        have r1 := hT.cell (i := 1) rfl
        have r2 := hT.cell (i := 2) rfl
        have r3 := hT.cell (i := 3) rfl
        simp at r0 r1 r2 r3
        have f1 := hT.frozen 1
        have f2 := hT.frozen 2
        have f3 := hT.frozen 3
        by_cases hk2 : m = 2
        · have HX2 := Lib.hid (show (l.take (k + 1)).map br1 = (l.take k).map br1 ++ [(2, 0, 0, 0)] by rw [HX.out, List.map_append]; simp [br1, ← HM.out, hk2])
          have gS : wq.grownBy (((wq.setCell ⟨T, 1, none⟩ (.int .i64 0)).setCell ⟨T, 2, none⟩ (.int .i64 0)).setCell ⟨T, 3, none⟩ (.int .i64 0)) (some T) := grown_trans (grown_trans (set_grown wq T 1 _) (set_grown _ T 2 _)) (set_grown _ T 3 _)
          have OQ' := OQ.kept gS (.inr aT)
          have BQ' := ((BQ.setCell (p := ⟨T, 1, none⟩) hwl (.int .i64 0)).setCell (p := ⟨T, 2, none⟩) hwl (.int .i64 0)).setCell (p := ⟨T, 3, none⟩) hwl (.int .i64 0)
          clear gS OQ
          subst hk2
          go_wp2_with (at_builtin; refine wpList_append_own _ rfl _ _ 22 rfl w.heap.size 32 i0 _ 4 32 Try.underlying22 hi hz0 hz1 hz2 rfl (by omega) _ _ _ rfl (OQ'.alloc _) ⟨wq.heap.size, 0, none⟩ 1 1 (ddCells (2, 0, 0, 0)) rfl rfl (World.news_of_block (cs := #[.int .i64 2, .int .i64 0, .int .i64 0, .int .i64 0]) (t := 32) (fr := (0, 0)) (by simpa using heap_alloc_new ((((wq.setCell ⟨T, 1, none⟩ (.int .i64 0)).setCell ⟨T, 2, none⟩ (.int .i64 0)).setCell ⟨T, 3, none⟩ (.int .i64 0))) _)) (by simp [Value.oneCell', ddCells]) (by unfold maxLen; omega) (by omega) (by simp; omega) ?_; intro v' w1 hown' hgrow _)
          have hB1 : Below w.heap.size w w1 := (BQ'.alloc BQ'.size _).grown hgrow (by simp; omega) (fun g e => (OQ'.lt g e).1)
          refine ⟨⟨k + 1, by omega, by go_num, ?_, hB1⟩, by simp [intOf]; omega⟩
          rw [HX2.out, List.flatMap_append]
          simpa using hown'
        · have HX2 := Lib.hid (show (l.take (k + 1)).map br1 = (l.take k).map br1 ++ [(m, x1)] by rw [HX.out, List.map_append]; simp [br1, ← HM.out, hk2])
          have OQ' := OQ
          have BQ' := BQ
          clear f1 f2 f3
          go_wp2_with (at_builtin; refine wpList_append_own _ rfl _ _ 22 rfl w.heap.size 32 i0 _ 4 32 Try.underlying22 hi hz0 hz1 hz2 rfl (by omega) _ _ _ rfl (OQ'.alloc _) ⟨wq.heap.size, 0, none⟩ 1 1 (ddCells (m, x1.1, x1.2.1, x1.2.2)) rfl rfl (World.news_of_block (cs := #[.int .i64 m, .int .i64 x1.1, .int .i64 x1.2.1, .int .i64 x1.2.2]) (t := 32) (fr := (0, 0)) (by simpa using heap_alloc_new (wq) _)) (by simp [Value.oneCell', ddCells]) (by unfold maxLen; omega) (by omega) (by simp; omega) ?_; intro v' w1 hown' hgrow _)
          have hB1 : Below w.heap.size w w1 := (BQ'.alloc BQ'.size _).grown hgrow (by simp; omega) (fun g e => (OQ'.lt g e).1)
          refine ⟨⟨k + 1, by omega, by go_num, ?_, hB1⟩, by simp [intOf]; omega⟩
          rw [HX2.out, List.flatMap_append]
          simpa using hown'
    · obtain rfl : k = n := by omega
      obtain ⟨lb, hlb⟩ : ∃ lb, lb = (l.take k).map br1 := ⟨_, rfl⟩
      have hll : lb.length = k := by rw [hlb, List.length_map, take_len hn1]
      rw [← hlb] at OU
      have HWL := Lib.hid (show WfD lb from fun d hd => by
        rw [hlb] at hd
        obtain ⟨d', hd', rfl⟩ := List.mem_map.1 hd
        exact br1_wf (HWF.out d' (List.mem_of_mem_take hd')))
      have HFL := Lib.hid (show ∀ d ∈ lb, Fine d from fun d hd => by
        rw [hlb] at hd
        obtain ⟨d', _, rfl⟩ := List.mem_map.1 hd
        exact br1_fine d')
      obtain ⟨a3, c3, rfl, -, -⟩ := owns_form OU.out
      have HDL := Lib.hid (isDeeds_of_owns OU.out hll)
      clear hlb OU
      by_cases h80 : k < 80
      · have i1 : ¬ (k : Int) < (l.length : Int) := by omega
        subst hll
        go_wp2_with fail
        refine (play_any lb a3 c3 wr (by unfold maxLen; omega) HWL.out HDL.out).mono ?_
        rintro e w1 ⟨rfl, hb1⟩
        replace HDL := Lib.hid (HDL.out.below hb1)
        replace HB := Lib.hid (on2 HB.out hb1)
        clear hb1
        obtain ⟨p1, hp1⟩ : ∃ p, p = (playR lb).1 := ⟨_, rfl⟩
        obtain ⟨p2, hp2⟩ : ∃ p, p = (playR lb).2 := ⟨_, rfl⟩
        rw [← hp1, ← hp2]
        have HP2 := Lib.hid hp2
        clear hp1 hp2
        go_wp2_with fail
        go_loopw [8, 9] (fun e i wr => ∃ j : Nat, j ≤ lb.length ∧ i = .int .i64 j ∧ e = .bool (eachB lb j) ∧ Below w1.heap.size w1 wr) (fun _ i _ => lb.length - (intOf i).toNat)
        case atStart => exact ⟨0, Nat.zero_le _, rfl, rfl, Below.refl _ _⟩
        case round =>
          obtain ⟨j, hj, rfl, rfl, hb⟩ := hrel
          have HBW := Lib.hid hb
          have HDJ := Lib.hid (HDL.out.below hb)
          clear hb
          by_cases hlt2 : j < lb.length
          · obtain ⟨⟨x0, x1⟩, hx⟩ : ∃ x, lb[j]? = some x := ⟨_, List.getElem?_eq_getElem (by omega)⟩
            obtain ⟨g, off, rfl, hc⟩ := HDJ.out (by intro e; rw [e] at hx; simp at hx)
            obtain ⟨d0, d1, d2, d3⟩ := hc j _ hx
            have ES := Lib.hid (eachB_succ hx)
            have i0' : (0 : Int) ≤ (j : Int) := by omega
            have i1 : (j : Int) < (lb.length : Int) := by omega
            dsimp only at d0 d1 d2 d3
            clear hx hc
            go_wp2_with fail
            refine (alone_any lb x1 (some ⟨g, off, none⟩) c3 _ (by omega) HDJ.out).mono ?_
            rintro e w2 ⟨v, rfl, ho, hb2⟩
            obtain ⟨a4, c4, rfl, -, -⟩ := owns_form ho
            have hal4 : (aloneL lb x1).length ≤ lb.length := List.length_filter_le _ _
            have PA := Lib.hid (fun W (h : W = w2) => play_any (aloneL lb x1) a4 c4 W (by unfold maxLen; omega) (fun d hd => HWL.out d (List.mem_filter.1 hd).1) (h ▸ isDeeds_of_owns ho rfl))
            have HB2 := Lib.hid (on2 HBW.out hb2)
            clear ho hb2 d0 d1 d2 d3
            go_wp2_with fail
            refine (PA.out w2 rfl).mono ?_
            rintro e w3 ⟨rfl, hb3⟩
            have HB3 := Lib.hid (on2 HB2.out hb3)
            clear hb3 PA HB2
            obtain ⟨q1, hq1⟩ : ∃ q, q = (playR (aloneL lb x1)).1 := ⟨_, rfl⟩
            obtain ⟨q2, hq2⟩ : ∃ q, q = (playR (aloneL lb x1)).2 := ⟨_, rfl⟩
            rw [← hq1, ← hq2]
            obtain ⟨eb, heb⟩ : ∃ b, b = eachB lb j := ⟨_, rfl⟩
            rw [← hq2, ← heb] at ES
            rw [← heb]
            clear hq1 hq2 heb
            by_cases hz : q2 = 0
            · have hz1 : (q2 == 0) = true := by simpa using hz
              have hz2 := Lib.hid (show decide (q2 = 0) = true by simpa using hz)
              clear hz
              cases eb with
              | true =>
                go_wp2_with fail
                go_roundw
                case rel => exact ⟨j + 1, by omega, by go_num, by rw [ES.out, hz2.out]; rfl, HB3.out⟩
                case measure => simp [intOf]; omega
              | false =>
                go_wp2_with fail
                go_roundw
                case rel => exact ⟨j + 1, by omega, by go_num, by rw [ES.out]; rfl, HB3.out⟩
                case measure => simp [intOf]; omega
            · have hz1 : (q2 == 0) = false := by simpa using hz
              have hz2 := Lib.hid (show decide (q2 = 0) = false by simpa using hz)
              clear hz
              cases eb with
              | true =>
                go_wp2_with fail
                go_roundw
                case rel => exact ⟨j + 1, by omega, by go_num, by rw [ES.out, hz2.out]; rfl, HB3.out⟩
                case measure => simp [intOf]; omega
              | false =>
                go_wp2_with fail
                go_roundw
                case rel => exact ⟨j + 1, by omega, by go_num, by rw [ES.out]; rfl, HB3.out⟩
                case measure => simp [intOf]; omega
          · obtain rfl : j = lb.length := by omega
            have EA := eachB_all lb HFL.out
            rw [← HP2.out] at EA
            have HW := Lib.hid (on2 HB.out HBW.out)
            rw [EA]
            clear EA HDJ
            by_cases hz : p2 = 0
            · have hz1 : (p2 == 0) = true := by simpa using hz
              have hz2 : decide (p2 = 0) = true := by simpa using hz
              rw [hz2]
              clear hz hz2
              go_wp2_with fail
              refine (works_any wr).mono ?_
              rintro e w3 ⟨rfl, hb3⟩
              go_wp2_with fail
              go_ret
              exact ⟨rfl, on2 HW.out hb3⟩
            · have hz1 : (p2 == 0) = false := by simpa using hz
              have hz2 : decide (p2 = 0) = false := by simpa using hz
              rw [hz2]
              clear hz hz2
              go_wp2_with fail
              refine (works_any wr).mono ?_
              rintro e w3 ⟨rfl, hb3⟩
              go_wp2_with fail
              go_ret
              exact ⟨rfl, on2 HW.out hb3⟩
      · have i80 : ¬ (k : Int) < 80 := by omega
        by_cases i1 : (k : Int) < (l.length : Int)
        · subst hll
          go_wp2_with fail
          refine (play_any lb a3 c3 wr (by unfold maxLen; omega) HWL.out HDL.out).mono ?_
          rintro e w1 ⟨rfl, hb1⟩
          replace HDL := Lib.hid (HDL.out.below hb1)
          replace HB := Lib.hid (on2 HB.out hb1)
          clear hb1
          obtain ⟨p1, hp1⟩ : ∃ p, p = (playR lb).1 := ⟨_, rfl⟩
          obtain ⟨p2, hp2⟩ : ∃ p, p = (playR lb).2 := ⟨_, rfl⟩
          rw [← hp1, ← hp2]
          have HP2 := Lib.hid hp2
          clear hp1 hp2
          go_wp2_with fail
          go_loopw [8, 9] (fun e i wr => ∃ j : Nat, j ≤ lb.length ∧ i = .int .i64 j ∧ e = .bool (eachB lb j) ∧ Below w1.heap.size w1 wr) (fun _ i _ => lb.length - (intOf i).toNat)
          case atStart => exact ⟨0, Nat.zero_le _, rfl, rfl, Below.refl _ _⟩
          case round =>
            obtain ⟨j, hj, rfl, rfl, hb⟩ := hrel
            have HBW := Lib.hid hb
            have HDJ := Lib.hid (HDL.out.below hb)
            clear hb
            by_cases hlt2 : j < lb.length
            · obtain ⟨⟨x0, x1⟩, hx⟩ : ∃ x, lb[j]? = some x := ⟨_, List.getElem?_eq_getElem (by omega)⟩
              obtain ⟨g, off, rfl, hc⟩ := HDJ.out (by intro e; rw [e] at hx; simp at hx)
              obtain ⟨d0, d1, d2, d3⟩ := hc j _ hx
              have ES := Lib.hid (eachB_succ hx)
              have i0' : (0 : Int) ≤ (j : Int) := by omega
              have i1 : (j : Int) < (lb.length : Int) := by omega
              dsimp only at d0 d1 d2 d3
              clear hx hc
              go_wp2_with fail
              refine (alone_any lb x1 (some ⟨g, off, none⟩) c3 _ (by omega) HDJ.out).mono ?_
              rintro e w2 ⟨v, rfl, ho, hb2⟩
              obtain ⟨a4, c4, rfl, -, -⟩ := owns_form ho
              have hal4 : (aloneL lb x1).length ≤ lb.length := List.length_filter_le _ _
              have PA := Lib.hid (fun W (h : W = w2) => play_any (aloneL lb x1) a4 c4 W (by unfold maxLen; omega) (fun d hd => HWL.out d (List.mem_filter.1 hd).1) (h ▸ isDeeds_of_owns ho rfl))
              have HB2 := Lib.hid (on2 HBW.out hb2)
              clear ho hb2 d0 d1 d2 d3
              go_wp2_with fail
              refine (PA.out w2 rfl).mono ?_
              rintro e w3 ⟨rfl, hb3⟩
              have HB3 := Lib.hid (on2 HB2.out hb3)
              clear hb3 PA HB2
              obtain ⟨q1, hq1⟩ : ∃ q, q = (playR (aloneL lb x1)).1 := ⟨_, rfl⟩
              obtain ⟨q2, hq2⟩ : ∃ q, q = (playR (aloneL lb x1)).2 := ⟨_, rfl⟩
              rw [← hq1, ← hq2]
              obtain ⟨eb, heb⟩ : ∃ b, b = eachB lb j := ⟨_, rfl⟩
              rw [← hq2, ← heb] at ES
              rw [← heb]
              clear hq1 hq2 heb
              by_cases hz : q2 = 0
              · have hz1 : (q2 == 0) = true := by simpa using hz
                have hz2 := Lib.hid (show decide (q2 = 0) = true by simpa using hz)
                clear hz
                cases eb with
                | true =>
                  go_wp2_with fail
                  go_roundw
                  case rel => exact ⟨j + 1, by omega, by go_num, by rw [ES.out, hz2.out]; rfl, HB3.out⟩
                  case measure => simp [intOf]; omega
                | false =>
                  go_wp2_with fail
                  go_roundw
                  case rel => exact ⟨j + 1, by omega, by go_num, by rw [ES.out]; rfl, HB3.out⟩
                  case measure => simp [intOf]; omega
              · have hz1 : (q2 == 0) = false := by simpa using hz
                have hz2 := Lib.hid (show decide (q2 = 0) = false by simpa using hz)
                clear hz
                cases eb with
                | true =>
                  go_wp2_with fail
                  go_roundw
                  case rel => exact ⟨j + 1, by omega, by go_num, by rw [ES.out, hz2.out]; rfl, HB3.out⟩
                  case measure => simp [intOf]; omega
                | false =>
                  go_wp2_with fail
                  go_roundw
                  case rel => exact ⟨j + 1, by omega, by go_num, by rw [ES.out]; rfl, HB3.out⟩
                  case measure => simp [intOf]; omega
            · obtain rfl : j = lb.length := by omega
              have EA := eachB_all lb HFL.out
              rw [← HP2.out] at EA
              have HW := Lib.hid (on2 HB.out HBW.out)
              rw [EA]
              clear EA HDJ
              by_cases hz : p2 = 0
              · have hz1 : (p2 == 0) = true := by simpa using hz
                have hz2 : decide (p2 = 0) = true := by simpa using hz
                rw [hz2]
                clear hz hz2
                go_wp2_with fail
                refine (works_any wr).mono ?_
                rintro e w3 ⟨rfl, hb3⟩
                go_wp2_with fail
                go_ret
                exact ⟨rfl, on2 HW.out hb3⟩
              · have hz1 : (p2 == 0) = false := by simpa using hz
                have hz2 : decide (p2 = 0) = false := by simpa using hz
                rw [hz2]
                clear hz hz2
                go_wp2_with fail
                refine (works_any wr).mono ?_
                rintro e w3 ⟨rfl, hb3⟩
                go_wp2_with fail
                go_ret
                exact ⟨rfl, on2 HW.out hb3⟩
        · subst hll
          go_wp2_with fail
          refine (play_any lb a3 c3 wr (by unfold maxLen; omega) HWL.out HDL.out).mono ?_
          rintro e w1 ⟨rfl, hb1⟩
          replace HDL := Lib.hid (HDL.out.below hb1)
          replace HB := Lib.hid (on2 HB.out hb1)
          clear hb1
          obtain ⟨p1, hp1⟩ : ∃ p, p = (playR lb).1 := ⟨_, rfl⟩
          obtain ⟨p2, hp2⟩ : ∃ p, p = (playR lb).2 := ⟨_, rfl⟩
          rw [← hp1, ← hp2]
          have HP2 := Lib.hid hp2
          clear hp1 hp2
          go_wp2_with fail
          go_loopw [8, 9] (fun e i wr => ∃ j : Nat, j ≤ lb.length ∧ i = .int .i64 j ∧ e = .bool (eachB lb j) ∧ Below w1.heap.size w1 wr) (fun _ i _ => lb.length - (intOf i).toNat)
          case atStart => exact ⟨0, Nat.zero_le _, rfl, rfl, Below.refl _ _⟩
          case round =>
            obtain ⟨j, hj, rfl, rfl, hb⟩ := hrel
            have HBW := Lib.hid hb
            have HDJ := Lib.hid (HDL.out.below hb)
            clear hb
            by_cases hlt2 : j < lb.length
            · obtain ⟨⟨x0, x1⟩, hx⟩ : ∃ x, lb[j]? = some x := ⟨_, List.getElem?_eq_getElem (by omega)⟩
              obtain ⟨g, off, rfl, hc⟩ := HDJ.out (by intro e; rw [e] at hx; simp at hx)
              obtain ⟨d0, d1, d2, d3⟩ := hc j _ hx
              have ES := Lib.hid (eachB_succ hx)
              have i0' : (0 : Int) ≤ (j : Int) := by omega
              have i1 : (j : Int) < (lb.length : Int) := by omega
              dsimp only at d0 d1 d2 d3
              clear hx hc
              go_wp2_with fail
              refine (alone_any lb x1 (some ⟨g, off, none⟩) c3 _ (by omega) HDJ.out).mono ?_
              rintro e w2 ⟨v, rfl, ho, hb2⟩
              obtain ⟨a4, c4, rfl, -, -⟩ := owns_form ho
              have hal4 : (aloneL lb x1).length ≤ lb.length := List.length_filter_le _ _
              have PA := Lib.hid (fun W (h : W = w2) => play_any (aloneL lb x1) a4 c4 W (by unfold maxLen; omega) (fun d hd => HWL.out d (List.mem_filter.1 hd).1) (h ▸ isDeeds_of_owns ho rfl))
              have HB2 := Lib.hid (on2 HBW.out hb2)
              clear ho hb2 d0 d1 d2 d3
              go_wp2_with fail
              refine (PA.out w2 rfl).mono ?_
              rintro e w3 ⟨rfl, hb3⟩
              have HB3 := Lib.hid (on2 HB2.out hb3)
              clear hb3 PA HB2
              obtain ⟨q1, hq1⟩ : ∃ q, q = (playR (aloneL lb x1)).1 := ⟨_, rfl⟩
              obtain ⟨q2, hq2⟩ : ∃ q, q = (playR (aloneL lb x1)).2 := ⟨_, rfl⟩
              rw [← hq1, ← hq2]
              obtain ⟨eb, heb⟩ : ∃ b, b = eachB lb j := ⟨_, rfl⟩
              rw [← hq2, ← heb] at ES
              rw [← heb]
              clear hq1 hq2 heb
              by_cases hz : q2 = 0
              · have hz1 : (q2 == 0) = true := by simpa using hz
                have hz2 := Lib.hid (show decide (q2 = 0) = true by simpa using hz)
                clear hz
                cases eb with
                | true =>
                  go_wp2_with fail
                  go_roundw
                  case rel => exact ⟨j + 1, by omega, by go_num, by rw [ES.out, hz2.out]; rfl, HB3.out⟩
                  case measure => simp [intOf]; omega
                | false =>
                  go_wp2_with fail
                  go_roundw
                  case rel => exact ⟨j + 1, by omega, by go_num, by rw [ES.out]; rfl, HB3.out⟩
                  case measure => simp [intOf]; omega
              · have hz1 : (q2 == 0) = false := by simpa using hz
                have hz2 := Lib.hid (show decide (q2 = 0) = false by simpa using hz)
                clear hz
                cases eb with
                | true =>
                  go_wp2_with fail
                  go_roundw
                  case rel => exact ⟨j + 1, by omega, by go_num, by rw [ES.out, hz2.out]; rfl, HB3.out⟩
                  case measure => simp [intOf]; omega
                | false =>
                  go_wp2_with fail
                  go_roundw
                  case rel => exact ⟨j + 1, by omega, by go_num, by rw [ES.out]; rfl, HB3.out⟩
                  case measure => simp [intOf]; omega
            · obtain rfl : j = lb.length := by omega
              have EA := eachB_all lb HFL.out
              rw [← HP2.out] at EA
              have HW := Lib.hid (on2 HB.out HBW.out)
              rw [EA]
              clear EA HDJ
              by_cases hz : p2 = 0
              · have hz1 : (p2 == 0) = true := by simpa using hz
                have hz2 : decide (p2 = 0) = true := by simpa using hz
                rw [hz2]
                clear hz hz2
                go_wp2_with fail
                refine (works_any wr).mono ?_
                rintro e w3 ⟨rfl, hb3⟩
                go_wp2_with fail
                go_ret
                exact ⟨rfl, on2 HW.out hb3⟩
              · have hz1 : (p2 == 0) = false := by simpa using hz
                have hz2 : decide (p2 = 0) = false := by simpa using hz
                rw [hz2]
                clear hz hz2
                go_wp2_with fail
                refine (works_any wr).mono ?_
                rintro e w3 ⟨rfl, hb3⟩
                go_wp2_with fail
                go_ret
                exact ⟨rfl, on2 HW.out hb3⟩
end Go.Proofs.Ythmkmjoeceghiaa
