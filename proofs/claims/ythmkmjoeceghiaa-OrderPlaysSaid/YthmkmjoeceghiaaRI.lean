/- OrderPlays. -/
import Derived.Test.YthmkmjoeceghiaaRF
namespace Go.Proofs.Ythmkmjoeceghiaa
open Go.RowKit

attribute [local go_sem ↓] Go.wp_at_zero Go.wp_at_succ
theorem line_lt {l : List Sp} (h : lineE l = 0) : okL [] ((lineO l).map fun k => (sp l k).1) ∧ ∀ j ∈ lineO l, j < l.length := by
  by_cases h0 : chk l = 0
  · cases hT : lineT l with
    | none => have := (lineE_no h0 hT).1; omega
    | some r =>
      rw [(lineE_yes h0 hT).2]
      obtain ⟨σ, rfl, hg⟩ := lineF_goes (chk_zero h0).2 _ _ _ _ hT (fun j hj => by cases hj)
      exact ⟨hg.plays, fun j hj => (hg.lt j hj).1⟩
  · have := (lineE_bad h0).1; omega
theorem play_zero {l : List Dd} (h : okL [] l) : (playR l).2 = 0 := (playR_okL l).2 h
theorem take_map_succ {l : List Sp} {r : List Nat} {i m : Nat} (h : r[i]? = some m) : ((r.take (i + 1)).map fun k => (sp l k).1) = ((r.take i).map fun k => (sp l k).1) ++ [(sp l m).1] := by
  rw [take_succ h, List.map_append]; rfl
set_option maxRecDepth 100000 in
set_option maxHeartbeats 4000000 in
theorem orderplays_any (l : List Sp) (a : Option Addr) (cap : Nat) (w : World) (hl : l.length ≤ 5000000000000) (hw : WfS l) (hI : IsSpans w a l) :
    Calls Try.prog 11 #[.slice a l.length cap] w (LinesIs w) := by
  obtain ⟨i0, hi, hz0, hz1, hz2⟩ := info_parts info32
  have HI := Lib.hid hI
  have HS := Lib.hid hw
  have HWF := Lib.hid (show ∀ i, i < l.length → WfO (sp l i).1.2 from fun i hi => by
    rw [sp_at (List.getElem?_eq_getElem hi)]; exact hw _ (List.getElem_mem hi))
  have hline := line_any l a cap w hl hw hI
  clear hI hw
  by_cases hE : lineE l = 0
  · have HP := Lib.hid (line_lt hE)
    have HH := Lib.hid (line_holds hE)
    have HZ := Lib.hid hE
    obtain ⟨r, hr⟩ : ∃ r, r = lineO l := ⟨_, rfl⟩
    have hrl : r.length ≤ 256 := by
      by_cases h0 : chk l = 0
      · have h1 := (chk_zero h0).1
        have h2 : r.length ≤ l.length := by
          cases hT : lineT l with
          | none => rw [hr, (lineE_no h0 hT).2]; exact Nat.zero_le _
          | some r' =>
            rw [hr, (lineE_yes h0 hT).2]
            obtain ⟨σ, rfl, hg⟩ := lineF_goes (chk_zero h0).2 _ _ _ _ hT (fun j hj => by cases hj)
            exact nodup_len _ _ hg.nodup (fun j hj => (hg.lt j hj).1)
        omega
      · rw [hr, (lineE_bad h0).2]; exact Nat.zero_le _
    clear hE
    go_enter Try.func11, Try.ntmps11
    go_wp2_with fail
    refine hline.mono ?_
    rintro e w1 he
    obtain ⟨ao, ko, rfl, hs, hb⟩ := he.open_
    rw [HZ.out, ← hr]
    rw [← hr] at hs HP HH
    have O1 := Lib.hid hs
    have B1 := Lib.hid hb
    have NO := Lib.hid (ints_len r)
    clear he hs hb hline hr
    go_wp2_with fail
    generalize hW : w1 = W
    rw [hW] at O1 B1
    clear hW
    go_loopw [5, 6] (fun dv iv wr => ∃ i : Nat, i ≤ r.length ∧ iv = .int .i64 i ∧ wr.ownsRow W.heap.size 32 4 dv i (((r.take i).map fun k => (sp l k).1).flatMap ddCells) ∧ Below W.heap.size W wr) (fun _ iv _ => r.length - (intOf iv).toNat)
    case atStart => exact ⟨0, Nat.zero_le _, rfl, World.ownsRow_nil _ _ _ _, Below.refl _ _⟩
    case round =>
      obtain ⟨i, hi', rfl, hO, hB'⟩ := hrel
      have OU := Lib.hid hO
      have BB := Lib.hid hB'
      obtain ⟨da, dk, rfl, -, -⟩ := owns_form hO
      clear hO hB'
      by_cases hlt : i < r.length
      · obtain ⟨m, hm⟩ : ∃ m, r[i]? = some m := ⟨_, List.getElem?_eq_getElem hlt⟩
        have hml : m < l.length := HP.out.2 m (List.mem_of_getElem? hm)
        obtain ⟨bo, oo, x, rfl, hx, ce⟩ := (O1.out.below BB.out).at (k := i) (by rw [NO.out]; exact hlt)
        obtain rfl : x = (m : Int) := by
          unfold ints at hx
          rw [List.getElem?_map, hm] at hx
          exact (Option.some.inj hx).symm
        obtain ⟨g, off, rfl⟩ := HI.out.form (by omega)
        obtain ⟨d0, d1, d2, d3, -, -⟩ := (HI.out.below (on2 B1.out BB.out)).at hml
        have HX := Lib.hid (take_map_succ (l := l) hm)
        have i1 : (0 : Int) ≤ (i : Int) := by omega
        have i2 : (i : Int) < (r.length : Int) := by omega
        have m0 : (0 : Int) ≤ (m : Int) := by omega
        have m1 : (m : Int) < (l.length : Int) := by omega
        have e0 : decide ((m : Int) < 0) = false := by simp
        have e1 : decide (l.length ≤ m) = false := by simp; omega
        have hbs := BB.out.size
        have O2 := Lib.hid (OU.out.alloc (.cells #[.int .i64 (sp l m).1.1, .int .i64 (sp l m).1.2.1, .int .i64 (sp l m).1.2.2.1, .int .i64 (sp l m).1.2.2.2] 32))
        clear hm hx
        go_wp2_with (at_builtin; refine wpList_append_own _ rfl _ _ 22 rfl W.heap.size 32 i0 _ 4 32 Try.underlying22 hi hz0 hz1 hz2 rfl (by omega) _ _ _ rfl O2.out ⟨wr.heap.size, 0, none⟩ 1 1 (ddCells (sp l m).1) rfl rfl (World.news_of_block (cs := #[.int .i64 (sp l m).1.1, .int .i64 (sp l m).1.2.1, .int .i64 (sp l m).1.2.2.1, .int .i64 (sp l m).1.2.2.2]) (t := 32) (fr := (0, 0)) (by simpa using heap_alloc_new wr _)) (by simp [Value.oneCell', ddCells]) (by unfold maxLen; omega) (by omega) (by simp; omega) ?_; intro v' w2 hown' hgrow _)
        have B2 := Lib.hid ((BB.out.alloc BB.out.size _).grown hgrow (by simp; omega) (fun g e => (OU.out.lt g e).1))
        have ON := Lib.hid (show w2.ownsRow W.heap.size 32 4 v' (i + 1) (((r.take (i + 1)).map fun k => (sp l k).1).flatMap ddCells) from by
          rw [HX.out, List.flatMap_append]; simpa using hown')
        clear hown' hgrow d0 d1 d2 d3 ce
        go_roundw
        case rel => exact ⟨i + 1, by omega, by go_num, ON.out, B2.out⟩
        case measure => simp [intOf]; omega
      · obtain rfl : i = r.length := by omega
        obtain ⟨ds, hds⟩ : ∃ ds, ds = ((r.take r.length).map fun k => (sp l k).1) := ⟨_, rfl⟩
        have hdl : ds.length = r.length := by rw [hds]; simp
        have PZ := Lib.hid (show (playR ds).2 = 0 from by rw [hds, List.take_length]; exact play_zero HP.out.1)
        have WD := Lib.hid (show WfD ds from fun d hd => by
          rw [hds, List.take_length] at hd
          obtain ⟨k, hk, rfl⟩ := List.mem_map.1 hd
          exact HWF.out k (HP.out.2 k hk))
        rw [← hds] at OU
        have ID := Lib.hid (isDeeds_of_owns OU.out hdl)
        have HDL := Lib.hid hdl
        clear hds hdl
        go_wp2_with fail
        have hpl := play_any ds da dk wr (by rw [HDL.out]; unfold maxLen; omega) WD.out ID.out
        rw [HDL.out, PZ.out] at hpl
        obtain ⟨p1, hp1⟩ : ∃ p, p = (playR ds).1 := ⟨_, rfl⟩
        rw [← hp1] at hpl
        clear hp1
        refine hpl.mono ?_
        rintro e w2 ⟨rfl, hb⟩
        have B2 := Lib.hid (on2 BB.out hb)
        clear hb hpl
        go_wp2_with fail
        obtain ⟨n0, hn0⟩ : ∃ m, m = (ints r).length := ⟨_, rfl⟩
        have hnn : r.length = n0 := by rw [hn0]; exact NO.out.symm
        rw [hnn, hn0]
        refine (holds_any l (ints r) a ao cap ko w2 hl HS.out (HI.out.below (on2 B1.out B2.out)) (O1.out.below B2.out)).mono ?_
        rintro e w3 ⟨rfl, hb⟩
        have B3 := Lib.hid (on2 B2.out hb)
        rw [HH.out]
        clear hn0 hnn hb
        go_wp2_with fail
        refine (works28_any w3).mono ?_
        rintro e w4 ⟨rfl, hb⟩
        have B4 := Lib.hid (on2 B3.out hb)
        clear hb
        go_wp2_with fail
        go_ret
        exact ⟨rfl, on2 B1.out B4.out⟩
  · have HL := Lib.hid (show (lineO l).length = 0 by rw [line_empty hE]; rfl)
    have HK := Lib.hid (line_kinds l)
    obtain ⟨E, hEE⟩ : ∃ E, E = lineE l := ⟨_, rfl⟩
    rw [← hEE] at hE HK
    have HE := Lib.hid hEE
    have e1 : (E != 0) = true := by simpa using hE
    by_cases h27 : E = 270
    · have e2 : (E == 270) = true := by simpa using h27
      clear hE hEE h27
      go_enter Try.func11, Try.ntmps11
      go_wp2_with fail
      refine hline.mono ?_
      rintro e w1 he
      obtain ⟨ao, ko, rfl, hs, hb⟩ := he.open_
      rw [HL.out, ← HE.out]
      have B1 := Lib.hid hb
      clear he hs hb hline
      go_wp2_with fail
      refine (works28_any w1).mono ?_
      rintro e w4 ⟨rfl, hb⟩
      have B4 := Lib.hid (on2 B1.out hb)
      clear hb
      go_wp2_with fail
      go_ret
      exact ⟨rfl, B4.out⟩
    · have e2 : (E == 270) = false := by simpa using h27
      have hchk := check_any l a cap
      obtain ⟨C, hC⟩ : ∃ C, C = chk l := ⟨_, rfl⟩
      rw [← hC] at hchk HK
      obtain rfl : E = C := by
        rcases HK.out with h | h | h
        · exact absurd h hE
        · exact absurd h h27
        · exact h.1
      have e3 : (E == E) = true := by simp
      clear hE hEE h27 hC HK
      go_enter Try.func11, Try.ntmps11
      go_wp2_with fail
      refine hline.mono ?_
      rintro e w1 he
      obtain ⟨ao, ko, rfl, hs, hb⟩ := he.open_
      rw [HL.out, ← HE.out]
      have B1 := Lib.hid hb
      clear he hs hb hline
      go_wp2_with fail
      refine (hchk w1 (by omega) (HI.out.below B1.out)).mono ?_
      rintro e w2 ⟨rfl, hb⟩
      have B2 := Lib.hid (on2 B1.out hb)
      clear hb hchk
      go_wp2_with fail
      refine (works28_any w2).mono ?_
      rintro e w4 ⟨rfl, hb⟩
      have B4 := Lib.hid (on2 B2.out hb)
      clear hb
      go_wp2_with fail
      go_ret
      exact ⟨rfl, B4.out⟩
end Go.Proofs.Ythmkmjoeceghiaa
