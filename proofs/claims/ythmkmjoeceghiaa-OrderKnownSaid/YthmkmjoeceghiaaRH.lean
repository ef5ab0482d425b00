/- OrderLines and OrderHolds. -/
import Derived.Test.YthmkmjoeceghiaaRF
import Derived.Deep.DeepCutAuto
namespace Go.Proofs.Ythmkmjoeceghiaa
open Go.RowKit

attribute [local go_sem ↓] Go.wp_at_zero Go.wp_at_succ
theorem info50 : (Try.prog.info? 50).map (fun i => (i.zero, i.size, i.bytes)) = some (some (.agg #[.int .i64 0, .int .i64 0, .int .i64 0, .int .i64 0, .int .i64 0, .int .i64 0]), 6, 48) := by kernel_rfl
theorem WfS.take {l : List Sp} (h : WfS l) (n : Nat) : WfS (l.take n) := fun x hx => h x (List.mem_of_mem_take hx)
theorem spans_cells {w : World} {x : Addr} {l : List Sp} (h : IsSpans w (some x) l) : ∀ j u, (l.flatMap spCells)[j]? = some u → w.cell? (x.add j) = some u := by
  intro j u hj
  have hjl := (List.getElem?_eq_some_iff.1 hj).1
  rw [flatSp_len] at hjl
  have hne : l ≠ [] := by intro e; rw [e] at hjl; simp at hjl
  obtain ⟨g, off, he, hc⟩ := h hne
  obtain rfl : x = ⟨g, off, none⟩ := by simpa using he
  have hk : j / 6 < l.length := by omega
  have hx := List.getElem?_eq_getElem hk
  obtain ⟨c0, c1, c2, c3, c4, c5⟩ := hc (j / 6) _ hx
  have hf := flatSp_at l (j / 6) _ hx (j % 6) (by omega)
  rw [show j / 6 * 6 + j % 6 = j by omega, hj] at hf
  have ha : (⟨g, off, none⟩ : Addr).add j = ⟨g, off + j, none⟩ := by unfold Addr.add; split <;> simp_all
  rw [ha]
  generalize l[j / 6] = c at *
  have hj6 : j = j / 6 * 6 + j % 6 := by omega
  have hm : j % 6 = 0 ∨ j % 6 = 1 ∨ j % 6 = 2 ∨ j % 6 = 3 ∨ j % 6 = 4 ∨ j % 6 = 5 := by omega
  generalize j / 6 = q at *
  generalize j % 6 = r at *
  subst hj6
  rcases hm with rfl | rfl | rfl | rfl | rfl | rfl
  · rw [show off + (q * 6 + 0) = off + q * 6 by omega, c0, hf]; rfl
  · rw [show off + (q * 6 + 1) = off + q * 6 + 1 by omega, c1, hf]; rfl
  · rw [show off + (q * 6 + 2) = off + q * 6 + 2 by omega, c2, hf]; rfl
  · rw [show off + (q * 6 + 3) = off + q * 6 + 3 by omega, c3, hf]; rfl
  · rw [show off + (q * 6 + 4) = off + q * 6 + 4 by omega, c4, hf]; rfl
  · rw [show off + (q * 6 + 5) = off + q * 6 + 5 by omega, c5, hf]; rfl
set_option maxRecDepth 100000 in
set_option maxHeartbeats 4000000 in
theorem orderlines_any (l0 : List Sp) (a : Option Addr) (cap : Nat) (w : World) (hl : l0.length ≤ 5000000000000) (hcl : l0.length ≤ cap) (hnil : a = none → cap = 0) (hw : WfS l0) (hI : IsSpans w a l0) :
    Calls Try.prog 7 #[.slice a l0.length cap] w (LinesIs w) := by
  obtain ⟨ii, hi, hz0, hz1, hz2⟩ := info_parts info50
  obtain ⟨l, hll⟩ : ∃ l, l = l0.take 300 := ⟨_, rfl⟩
  have hlen : l.length = min l0.length 300 := by rw [hll, List.length_take]; omega
  have HI := Lib.hid (show IsSpans w a l by rw [hll]; exact hI.take _)
  have HS := Lib.hid (show WfS l by rw [hll]; exact hw.take _)
  have hmn : min (l0.length : Int) 300 = (l.length : Int) := by omega
  have hmx : max (l.length : Int) 0 = (l.length : Int) := by omega
  have hlc : l.length ≤ cap := by omega
  have hl300 : l.length ≤ 300 := by omega
  have HN := Lib.hid hnil
  clear hll hlen hI hw hnil
  go_enter Try.func7, Try.ntmps7
  go_upto_region 3 with fail
  clear hmn hmx
  go_cut [3] (fun s3 wx => ∃ b c, s3 = .slice b l.length c ∧ IsSpans wx b l ∧ Below w.heap.size w wx)
  case first =>
    cases a with
    | none =>
      have h0 := HN.out rfl
      obtain rfl : cap = 0 := h0
      obtain rfl : l = [] := List.eq_nil_of_length_eq_zero (by omega)
      go_wp2_with (at_builtin; refine wpList_append_own_none rfl _ _ 45 rfl w.heap.size 50 ii 6 Try.underlying45 hi _ 0 [] rfl (World.ownsRow_nil _ _ _ _) rfl ?_)
      go_meet
      exact ⟨none, 0, rfl, fun h => absurd rfl h, Below.refl _ _⟩
    | some ad =>
      have HC := Lib.hid (spans_cells HI.out)
      go_wp2_with (at_builtin; refine wpList_append_own _ rfl _ _ 45 rfl w.heap.size 50 ii _ 6 48 Try.underlying45 hi hz0 hz1 hz2 rfl (by decide) _ 0 [] rfl (World.ownsRow_nil _ _ _ _) ad l.length cap (l.flatMap spCells) rfl (flatSp_len l) HC.out (by intro u hu; obtain ⟨x, -, hx⟩ := List.mem_flatMap.1 hu; simp [spCells] at hx; rcases hx with rfl | rfl | rfl | rfl | rfl | rfl <;> rfl) (by unfold maxLen; omega) (by omega) (Nat.le_refl _) ?_; intro v' w1 hown' hgrow _)
      have B1 := Lib.hid ((Below.refl _ w).grown hgrow (Nat.le_refl _) (fun g e => by cases e))
      obtain ⟨b, c, rfl, -, -⟩ := owns_form hown'
      have S1 := Lib.hid (show IsSpans w1 b l from isSpans_own (by simpa using hown'))
      clear hown' hgrow
      go_meet
      exact ⟨b, c, by simp, S1.out, B1.out⟩
  case rest =>
    obtain ⟨b, c, rfl, hs, hb⟩ := hcut
    have S1 := Lib.hid hs
    have B1 := Lib.hid hb
    clear hs hb
    go_wp2_with fail
    refine (line_any l b c _ (by omega) HS.out S1.out).mono ?_
    rintro e w2 he
    obtain ⟨ao, ko, rfl, hs, hb⟩ := he.open_
    have O2 := Lib.hid hs
    have B2 := Lib.hid (on2 B1.out hb)
    have S2 := Lib.hid (S1.out.below hb)
    have NO := Lib.hid (ints_len (lineO l))
    clear he hs hb S1 B1
    go_wp2_with fail
    refine (rline_any l a cap _ (by omega) HS.out (HI.out.below B2.out)).mono ?_
    rintro e w3 he
    obtain ⟨ar, kr, rfl, hs, hb⟩ := he.open_
    have O3 := Lib.hid hs
    have B3 := Lib.hid (on2 B2.out hb)
    have S3 := Lib.hid (S2.out.below hb)
    have P3 := Lib.hid (O2.out.below hb)
    clear he hs hb S2 B2 O2
    generalize (lineO l).length = no at *
    generalize lineE l = E at *
    go_wp2_with fail
    generalize w3 = W at *
    go_loopw [8] (fun iv wr => ∃ i : Nat, i ≤ l.length ∧ iv = .int .i64 i ∧ Below W.heap.size W wr) (fun iv _ => l.length - (intOf iv).toNat)
    case atStart => exact ⟨0, Nat.zero_le _, rfl, Below.refl _ _⟩
    case round =>
      obtain ⟨i, hi', rfl, hB'⟩ := hrel
      have BB := Lib.hid hB'
      clear hB'
      by_cases hlt : i < l.length
      · obtain ⟨g1, o1, rfl⟩ := HI.out.form (by omega)
        obtain ⟨g2, o2, rfl⟩ := S3.out.form (by omega)
        obtain ⟨d0, d1, d2, d3, d4, d5⟩ := (HI.out.below (on2 B3.out BB.out)).at hlt
        obtain ⟨f0, f1, f2, f3, f4, f5⟩ := (S3.out.below BB.out).at hlt
        have hn := neq50 (sp l i)
        have i0 : (0 : Int) ≤ (i : Int) := by omega
        have i1 : (i : Int) < (l.length : Int) := by omega
        go_wp2_with fail
        go_quiet (fail)
        have B5 := Lib.hid (below_drewN BB.out nq)
        clear hn d0 d1 d2 d3 d4 d5 f0 f1 f2 f3 f4 f5
        go_wp2_with fail
        go_roundw
        case rel => exact ⟨i + 1, by omega, by go_num, B5.out⟩
        case measure => simp [intOf]; omega
      · obtain rfl : i = l.length := by omega
        go_wp2_with fail
        refine (check_any l a cap _ (by omega) (HI.out.below (on2 B3.out BB.out))).mono ?_
        rintro e w5 ⟨rfl, hb⟩
        have B5 := Lib.hid (on2 BB.out hb)
        clear hb
        go_wp2_with fail
        refine (rcheck_any l a cap _ (by omega) (HI.out.below (on2 B3.out B5.out))).mono ?_
        rintro e w6 ⟨rfl, hb⟩
        have B6 := Lib.hid (on2 B5.out hb)
        clear hb
        generalize chk l = C at *
        have e1 : (C == C) = true := by simp
        have e2 : (E == E) = true := by simp
        go_wp2_with fail
        refine (eqints_at (ints (lineO l)) (ints (lineO l)) true ao ar no no ko kr w6 NO.out NO.out (decide_eq_true rfl) (P3.out.below B6.out) (O3.out.below B6.out)).mono ?_
        rintro e w7 ⟨rfl, hb⟩
        have B7 := Lib.hid (on2 B6.out hb)
        clear hb
        go_wp2_with fail
        refine (works28_any w7).mono ?_
        rintro e w8 ⟨rfl, hb⟩
        have B8 := Lib.hid (on2 B7.out hb)
        clear hb
        go_wp2_with fail
        go_ret
        exact ⟨rfl, on2 B3.out B8.out⟩
theorem IsSl.taken {α : Type} {enc : α → Value} {w : World} {a : Option Addr} {xs : List α} (h : IsSl enc w a xs) (n : Nat) : IsSl enc w a (xs.take n) := h.take n
set_option maxRecDepth 100000 in
set_option maxHeartbeats 4000000 in
theorem orderholds_any (l0 : List Sp) (o0 : List Int) (a c : Option Addr) (cap kc : Nat) (w : World) (hl : l0.length ≤ 5000000000000) (hcl : l0.length ≤ cap) (hck : o0.length ≤ kc) (hw : WfS l0) (hI : IsSpans w a l0) (hO : IsSl encI w c o0) :
    Calls Try.prog 8 #[.slice a l0.length cap, .slice c o0.length kc] w (LinesIs w) := by
  obtain ⟨l, hll⟩ : ∃ l, l = l0.take 100 := ⟨_, rfl⟩
  obtain ⟨o, hoo⟩ : ∃ o, o = o0.take 120 := ⟨_, rfl⟩
  have hlen : l.length = min l0.length 100 := by rw [hll, List.length_take]; omega
  have holn : o.length = min o0.length 120 := by rw [hoo, List.length_take]; omega
  have HI := Lib.hid (show IsSpans w a l by rw [hll]; exact hI.take _)
  have HO := Lib.hid (show IsSl encI w c o by rw [hoo]; exact hO.take _)
  have HS := Lib.hid (show WfS l by rw [hll]; exact hw.take _)
  have hol := hO.len
  have hmn : min (l0.length : Int) 100 = (l.length : Int) := by omega
  have hmx : max (l.length : Int) 0 = (l.length : Int) := by omega
  have hmo : min (o0.length : Int) 120 = (o.length : Int) := by omega
  have hmp : max (o.length : Int) 0 = (o.length : Int) := by omega
  have hlc : l.length ≤ cap := by omega
  have hoc : o.length ≤ kc := by omega
  have hl100 : l.length ≤ 100 := by omega
  clear hll hlen hoo holn hI hw hO
  go_enter Try.func8, Try.ntmps8
  go_wp2_with fail
  clear hmn hmx hmo hmp
  refine (holds_any l o a c cap kc _ (by omega) HS.out HI.out HO.out).mono ?_
  rintro e w1 ⟨rfl, hb⟩
  have B1 := Lib.hid hb
  clear hb
  go_wp2_with fail
  refine (rholds_any l o a c cap kc _ (by omega) HS.out (HI.out.below B1.out) (HO.out.below B1.out)).mono ?_
  rintro e w2 ⟨rfl, hb⟩
  have B2 := Lib.hid (on2 B1.out hb)
  clear hb
  generalize holdsB l o = q at *
  have e1 : (q == q) = true := by simp
  go_wp2_with fail
  refine (works28_any w2).mono ?_
  rintro e w3 ⟨rfl, hb⟩
  have B3 := Lib.hid (on2 B2.out hb)
  clear hb
  go_wp2_with fail
  go_ret
  exact ⟨rfl, B3.out⟩
end Go.Proofs.Ythmkmjoeceghiaa
