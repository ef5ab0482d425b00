/- OrderShaken. -/
import Derived.Test.YthmkmjoeceghiaaRJ
import Derived.Deep.DeepCutAuto
namespace Go.Proofs.Ythmkmjoeceghiaa
open Go.RowKit

attribute [local go_sem ↓] Go.wp_at_zero Go.wp_at_succ
theorem info50s : (Try.prog.info? 50).map (fun i => (i.zero, i.size, i.bytes)) = some (some (.agg #[.int .i64 0, .int .i64 0, .int .i64 0, .int .i64 0, .int .i64 0, .int .i64 0]), 6, 48) := by kernel_rfl
/-- the state of OrderShaken's loop -/
structure Sk (w : World) (hB hM : Nat) (k : Nat) (rv : Value) (row : List Sp) (S : List Ob) (ats : List Int) (wr : World) : Prop where
  h : Hp wr hB hM k S
  r : wr.ownsRow w.heap.size 50 6 rv row.length (row.flatMap spCells)
  s : Shk (20 + 3 * (k : Int)) row S ats
  below : Below w.heap.size w wr
  len : row.length ≤ k
  wf : WfS row
  wM : w.heap.size ≤ hM
section
variable {w wr w' : World} {hB hM k : Nat} {rv : Value} {row : List Sp} {S : List Ob} {ats : List Int}
theorem Sk.did (h : Sk w hB hM k rv row S ats wr) (hg : wr.grownBy w' (some hM)) : w'.ownsRow w.heap.size 50 6 rv row.length (row.flatMap spCells) ∧ Below w.heap.size w w' := by
  refine ⟨h.r.kept hg ?_, h.below.grown hg h.below.size (fun g e => by cases e; exact h.wM)⟩
  cases e : rv.ownBlock with
  | none => exact .inl rfl
  | some g =>
    refine .inr fun e2 => ?_
    obtain ⟨cs, t, h1, _⟩ := own_cells h.r g e
    obtain rfl : g = hM := by injection e2
    exact hp_ne h.h (show Blk wr g cs t from h1) rfl
/-- the deed does not play: it is left out -/
theorem Sk.skip (h : Sk w hB hM k rv row S ats wr) {d : Dd} (hd : doE S d ≠ 0) (hH : Hp w' hB hM (k + 1) (doS S d)) (hg : wr.grownBy w' (some hM)) : Sk w hB hM (k + 1) rv row S ats w' := by
  obtain ⟨h1, h2⟩ := h.did hg
  have e : doS S d = S := by unfold doS; rw [if_pos hd]
  rw [e] at hH
  exact ⟨hH, h1, h.s.skip (by omega), h2, by have := h.len; omega, h.wf, h.wM⟩
theorem Sk.add (h : Sk w hB hM k rv row S ats wr) {d : Dd} {n : Int} (hd : doE S d = 0) (hk : k < 40) (h0 : 0 ≤ n) (h1 : n < 20) (hw : WfO d.2) {w1 w2 : World} {rv' : Value} {o : Obj} (hH : Hp w1 hB hM (k + 1) (doS S d)) (hg : wr.grownBy w1 (some hM))
    (hg2 : (w1.alloc o).grownBy w2 rv.ownBlock) (ho : w2.ownsRow w.heap.size 50 6 rv' (row.length + 1) (row.flatMap spCells ++ spCells (d, 20 + 3 * (k : Int) - n, 20 + 3 * (k : Int) + n / 2))) :
    Sk w hB hM (k + 1) rv' (row ++ [(d, 20 + 3 * (k : Int) - n, 20 + 3 * (k : Int) + n / 2)]) (doS S d) (ats ++ [20 + 3 * (k : Int)]) w2 := by
  obtain ⟨h2, h3⟩ := h.did hg
  have far : ∀ g, rv.ownBlock = some g → w.heap.size ≤ g := fun g e => (h.r.lt g e).1
  have hHa := hH.below ((Below.refl w1.heap.size w1).alloc (Nat.le_refl _) o)
  refine ⟨?_, ?_, ?_, (h3.alloc h3.size o).grown hg2 (by have := h3.size; simp; omega) far, ?_, ?_, h.wM⟩
  · cases e : rv.ownBlock with
    | none => rw [e] at hg2; obtain ⟨D, hD, hh⟩ := hHa.map; exact ⟨hHa.bB.grown hg2 (by simp), ⟨D, hD.kept hg2 (by simp), hh⟩, hHa.wf⟩
    | some g =>
      rw [e] at hg2
      obtain ⟨cs, t, c1, c2⟩ := own_cells (h2.alloc o) g e
      refine hHa.grownX (fun e2 => ?_) (fun e2 => ?_) hg2
      · subst e2; exact blk_ne hHa.bB (show Blk (w1.alloc o) hB cs t from c1) (by rw [c2]; decide) rfl
      · exact hp_ne hHa (show Blk (w1.alloc o) g cs t from c1) e2
  · rw [List.length_append, List.length_singleton, List.flatMap_append]; simpa using ho
  · have := h.s.add hd (n := n) (by omega) (by omega) h0 h1
    rw [show (20 : Int) + 3 * ((k + 1 : Nat) : Int) = 20 + 3 * (k : Int) + 3 by omega]; exact this
  · have := h.len; simp; omega
  · intro x hx
    rcases List.mem_append.1 hx with h4 | h4
    · exact h.wf x h4
    · obtain rfl := List.mem_singleton.1 h4
      exact hw
end
theorem holds_at (l : List Sp) (o : List Int) (q : Bool) (a c : Option Addr) (la lc cap kc : Nat) (w : World) (h1 : l.length = la) (h2 : o.length = lc) (hq : holdsB l o = q) (hl : l.length ≤ 5000000000000) (hw : WfS l) (hI : IsSpans w a l) (hO : IsSl encI w c o) :
    Calls Try.prog 32 #[.slice a la cap, .slice c lc kc] w fun e w' => e = .returned (.bool q) ∧ Below w.heap.size w w' := by
  subst h1 h2 hq; exact holds_any l o a c cap kc w hl hw hI hO
set_option maxRecDepth 100000 in
set_option maxHeartbeats 4000000 in
theorem ordershaken_any (l : List Dd) (by_ : List Int) (a c : Option Addr) (cap kc : Nat) (w : World) (hl : l.length < 5000000000000) (hw : WfD l) (hI : IsDeeds w a l) (hy : ∀ x ∈ by_, IsI x) (hO : IsSl encI w c by_) :
    Calls Try.prog 9 #[.slice a l.length cap, .slice c by_.length kc] w (LinesIs w) := by
  obtain ⟨j0, hj, hy0, hy1, hy2⟩ := info_parts info50s
  have HI := Lib.hid hI
  have HO := Lib.hid hO
  have HWF := Lib.hid hw
  have hbl := hO.len
  obtain ⟨n, hn⟩ : ∃ n, n = min l.length 40 := ⟨_, rfl⟩
  have hn1 : n ≤ l.length := by omega
  have hn2 : n ≤ 40 := by omega
  have hn3 : n < 40 → l.length ≤ n := by omega
  clear hI hw hn hO hy
  go_enter Try.func9, Try.ntmps9
  go_wp2_with fail
  refine (new_any w).mono ?_
  rintro e w1 ⟨rfl, hH, hb⟩
  have SS := Lib.hid (show Sk w (w.heap.size + 1) w.heap.size 0 (.slice none 0 0) [] [] [] w1 from ⟨hH, World.ownsRow_nil _ _ _ _, Shk.nil, hb, Nat.le_refl _, (fun x hx => by cases hx), Nat.le_refl _⟩)
  clear hH hb
  go_wp2_with fail
  obtain ⟨hM, hhM⟩ : ∃ x, x = w.heap.size := ⟨_, rfl⟩
  rw [← hhM]
  replace SS := Lib.hid (show Sk w (hM + 1) hM 0 (.slice none 0 0) [] [] [] w1 from by rw [hhM]; exact SS.out)
  clear hhM
  generalize hM + 1 = hB at *
  go_loopw [6, 7] (fun rv iv wr => ∃ (k : Nat) (row : List Sp) (S : List Ob) (ats : List Int), k ≤ n ∧ iv = .int .i64 k ∧ Sk w hB hM k rv row S ats wr) (fun _ iv _ => n - (intOf iv).toNat)
  case atStart => exact ⟨0, _, _, _, Nat.zero_le _, rfl, SS.out⟩
  case round =>
    clear SS
    obtain ⟨k, row, S, ats, hkn, rfl, hR⟩ := hrel
    have RR := Lib.hid hR
    obtain ⟨ra, rk, rfl, -, -⟩ := owns_form hR.r
    have hrl := hR.len
    clear hR
    by_cases hlt : k < n
    · obtain ⟨d, hx⟩ : ∃ x, l[k]? = some x := ⟨_, List.getElem?_eq_getElem (by omega)⟩
      have hwf := HWF.out d (List.mem_of_getElem? hx)
      obtain ⟨g, off, rfl, hc⟩ := (HI.out.below RR.out.below) (by intro e; rw [e] at hx; simp at hx)
      obtain ⟨d0, d1, d2, d3⟩ := hc k _ hx
      have z0 : (0 : Int) ≤ (k : Int) := by omega
      have z1 : (k : Int) < (l.length : Int) := by omega
      have z2 : (k : Int) < 40 := by omega
      have HX := Lib.hid hx
      have hdo := do_any hB hM k S d wr RR.out.h hwf (by unfold maxLen; omega)
      obtain ⟨E, hE⟩ : ∃ E, E = doE S d := ⟨_, rfl⟩
      rw [← hE] at hdo
      have HDE := Lib.hid hE
      have HW := Lib.hid hwf
      clear hx hc hE hwf
      by_cases hE0 : E = 0
      · subst hE0
        go_wp2_with fail
        refine hdo.mono ?_
        rintro e w4 ⟨rfl, hH4, hg4⟩
        have H4 := Lib.hid hH4
        have G4 := Lib.hid hg4
        have D4 := Lib.hid (RR.out.did hg4)
        clear hH4 hg4 hdo d0 d1 d2 d3
        go_upto_if 32 with fail
        go_cut [8] (fun s8 wx => ∃ v : Int, s8 = .int .i64 v ∧ 0 ≤ v ∧ v < 20 ∧ wx = w4)
        case first =>
          by_cases hb0 : 0 < by_.length
          · obtain ⟨q, hq⟩ : ∃ q, q = k % by_.length := ⟨_, rfl⟩
            have hql : q < by_.length := by rw [hq]; exact Nat.mod_lt _ hb0
            have hqi : (k : Int) % (by_.length : Int) = (q : Int) := by rw [hq]; exact (Int.natCast_emod k by_.length).symm
            have hqt : Int.tmod (k : Int) (by_.length : Int) = (q : Int) := by rw [Int.tmod_eq_emod_of_nonneg (by omega)]; exact hqi
            obtain ⟨bo, oo, x, rfl, hx, ce⟩ := (HO.out.below D4.out.2).at hql
            have q0 : (0 : Int) ≤ (q : Int) := by omega
            have q1 : (q : Int) < (by_.length : Int) := by omega
            have hb1 : (0 : Int) < (by_.length : Int) := by omega
            have hbn : ((by_.length : Int) == 0) = false := by rw [beq_eq_false_iff_ne]; omega
            have b0 := Int.emod_nonneg x (show (20 : Int) ≠ 0 by decide)
            have b1 := Int.emod_lt_of_pos x (show (0 : Int) < 20 by decide)
            clear hx hq
            go_wp2_with fail
            refine (bring_any x 20 _ (by decide) (by decide)).mono ?_
            rintro e wX ⟨rfl, rfl⟩
            clear hqi hqt
            go_wp2_with fail
            go_meet
            exact ⟨_, rfl, b0, b1, rfl⟩
          · have hb1 : decide (0 < by_.length) = false := decide_eq_false hb0
            go_wp2_with fail
            go_meet
            exact ⟨0, rfl, by decide, by decide, rfl⟩
        case rest =>
          obtain ⟨v, rfl, hv0, hv1, rfl⟩ := hcut
          have hne : l ≠ [] := by intro e; rw [e] at z1; simp at z1; omega
          obtain ⟨g', off', he', hc⟩ := (HI.out.below D4.out.2) hne
          obtain ⟨rfl, rfl⟩ : g = g' ∧ off = off' := by simpa using he'
          obtain ⟨d0, d1, d2, d3⟩ := hc k _ HX.out
          have hs4 := D4.out.2.size
          clear hc he' hne
          go_wp2_with (at_builtin; refine wpList_append_own _ rfl _ _ 45 rfl w.heap.size 50 j0 _ 6 48 Try.underlying45 hj hy0 hy1 hy2 rfl (by decide) _ _ _ rfl (D4.out.1.alloc _) ⟨wc.heap.size, 0, none⟩ 1 1 (spCells (d, 20 + 3 * (k : Int) - v, 20 + 3 * (k : Int) + v / 2)) rfl rfl (World.news_of_block (cs := #[.int .i64 d.1, .int .i64 d.2.1, .int .i64 d.2.2.1, .int .i64 d.2.2.2, .int .i64 (20 + 3 * (k : Int) - v), .int .i64 (20 + 3 * (k : Int) + v / 2)]) (t := 50) (fr := (0, 0)) (by simpa using heap_alloc_new wc _)) (by simp [Value.oneCell', spCells]) (by unfold maxLen; omega) (by omega) (by simp; omega) ?_; intro v2 we p2 g2 _)
          have LN := Lib.hid (RR.out.add (n := v) HDE.out.symm (by omega) hv0 hv1 HW.out H4.out G4.out g2 p2)
          clear g2 p2 d0 d1 d2 d3
          go_roundw
          case rel => exact ⟨k + 1, _, _, _, by omega, by go_num, LN.out⟩
          case measure => simp [intOf]; omega
      · have e2 : (E != 0) = true := by simpa using hE0
        have HN := Lib.hid (show doE S d ≠ 0 by rw [← HDE.out]; exact hE0)
        clear hE0
        go_wp2_with fail
        refine hdo.mono ?_
        rintro e w4 ⟨rfl, hH4, hg4⟩
        have LN := Lib.hid (RR.out.skip HN.out hH4 hg4)
        clear hH4 hg4 hdo d0 d1 d2 d3
        go_wp2_with fail
        go_roundw
        case rel => exact ⟨k + 1, row, S, ats, by omega, by go_num, LN.out⟩
        case measure => simp [intOf]; omega
    · obtain rfl : k = n := by omega
      have SH := Lib.hid (shaken RR.out.s (by omega))
      have HH := Lib.hid (line_holds SH.out.1)
      have WS := Lib.hid RR.out.wf
      have IS := Lib.hid (isSpans_own RR.out.r)
      have BR := Lib.hid RR.out.below
      have hln := line_any row ra rk wr (by omega) WS.out IS.out
      have NO := Lib.hid (show (ints (lineO row)).length = row.length by rw [ints_len]; exact SH.out.2)
      clear RR
      by_cases h40 : k < 40
      · have q1 : ¬ (k : Int) < (l.length : Int) := by omega
        go_wp2_with fail
        refine hln.mono ?_
        rintro e w3 he
        obtain ⟨ua, uk, rfl, hs, hb⟩ := he.open_
        rw [SH.out.1, SH.out.2]
        have U3 := Lib.hid hs
        have B3 := Lib.hid hb
        have S3 := Lib.hid (IS.out.below hb)
        clear he hs hb hln
        go_wp2_with fail
        refine (holds_at row (ints (lineO row)) true ra ua row.length row.length rk uk w3 rfl NO.out HH.out (by omega) WS.out S3.out U3.out).mono ?_
        rintro e w4 ⟨rfl, hb⟩
        have B4 := Lib.hid (on2 B3.out hb)
        clear hb
        go_wp2_with fail
        refine (works28_any w4).mono ?_
        rintro e w5 ⟨rfl, hb⟩
        have B5 := Lib.hid (on2 B4.out hb)
        clear hb
        go_wp2_with fail
        go_ret
        exact ⟨rfl, on2 BR.out B5.out⟩
      · have q40 : ¬ (k : Int) < 40 := by omega
        by_cases q1 : (k : Int) < (l.length : Int)
        ·
          go_wp2_with fail
          refine hln.mono ?_
          rintro e w3 he
          obtain ⟨ua, uk, rfl, hs, hb⟩ := he.open_
          rw [SH.out.1, SH.out.2]
          have U3 := Lib.hid hs
          have B3 := Lib.hid hb
          have S3 := Lib.hid (IS.out.below hb)
          clear he hs hb hln
          go_wp2_with fail
          refine (holds_at row (ints (lineO row)) true ra ua row.length row.length rk uk w3 rfl NO.out HH.out (by omega) WS.out S3.out U3.out).mono ?_
          rintro e w4 ⟨rfl, hb⟩
          have B4 := Lib.hid (on2 B3.out hb)
          clear hb
          go_wp2_with fail
          refine (works28_any w4).mono ?_
          rintro e w5 ⟨rfl, hb⟩
          have B5 := Lib.hid (on2 B4.out hb)
          clear hb
          go_wp2_with fail
          go_ret
          exact ⟨rfl, on2 BR.out B5.out⟩
        ·
          go_wp2_with fail
          refine hln.mono ?_
          rintro e w3 he
          obtain ⟨ua, uk, rfl, hs, hb⟩ := he.open_
          rw [SH.out.1, SH.out.2]
          have U3 := Lib.hid hs
          have B3 := Lib.hid hb
          have S3 := Lib.hid (IS.out.below hb)
          clear he hs hb hln
          go_wp2_with fail
          refine (holds_at row (ints (lineO row)) true ra ua row.length row.length rk uk w3 rfl NO.out HH.out (by omega) WS.out S3.out U3.out).mono ?_
          rintro e w4 ⟨rfl, hb⟩
          have B4 := Lib.hid (on2 B3.out hb)
          clear hb
          go_wp2_with fail
          refine (works28_any w4).mono ?_
          rintro e w5 ⟨rfl, hb⟩
          have B5 := Lib.hid (on2 B4.out hb)
          clear hb
          go_wp2_with fail
          go_ret
          exact ⟨rfl, on2 BR.out B5.out⟩
end Go.Proofs.Ythmkmjoeceghiaa
