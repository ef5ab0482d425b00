/- slices.Compare, Less, Same. -/
import Derived.Test.YtklfocciomngnaaJ
import Derived.BigQuiet
import Derived.Deep.QuietTactic
namespace Go.Proofs.Ytklfocciomngnaa
open Go.RowKit Go.Lib

set_option maxRecDepth 100000 in
set_option maxHeartbeats 1000000 in
theorem compare_any (xs ys : List Int) (a c : Option Addr) (ka kc : Nat) (w : World) (hx : IsSl encR w a xs) (hy : IsSl encR w c ys) : Calls Try.prog 33 #[.slice a xs.length ka, .slice c ys.length kc] w fun e w' => e = .returned (.int .i64 (cmpL xs ys)) ∧ w = w' := by
  have hlx := hx.len
  have hly := hy.len
  have HX := Lib.hid hx
  have HY := Lib.hid hy
  clear hx hy
  go_enter Try.func33, Try.ntmps33
  go_wp2_with fail
  go_loop [11] (fun iv => ∃ i : Nat, i ≤ xs.length ∧ i ≤ ys.length ∧ iv = .int .i64 i ∧ cmpL xs ys = cmpL (xs.drop i) (ys.drop i)) (fun iv => xs.length - (RowKit.intOf iv).toNat)
  case atStart => exact ⟨0, by omega, by omega, rfl, rfl⟩
  case round =>
    obtain ⟨i, hi, hj, rfl, hc⟩ := hrel
    by_cases h1 : i < xs.length
    · obtain ⟨bx, ox, x, rfl, hx, cx⟩ := HX.out.at h1
      dsimp only [encR] at cx
      by_cases h2 : i < ys.length
      · obtain ⟨by', oy, y, rfl, hy, cy⟩ := HY.out.at h2
        dsimp only [encR] at cy
        rw [cmpL_at hx hy] at hc
        have j0 : (0 : Int) ≤ (i : Int) := by omega
        have j1 : (i : Int) < (xs.length : Int) := by omega
        have j2 : (i : Int) < (ys.length : Int) := by omega
        have CM := cmp_any x y w
        clear hx hy
        by_cases a1 : x < y
        · rw [if_pos a1] at hc
          have HC := Lib.hid hc
          rw [show cmpZ x y = -1 from by unfold cmpZ; rw [if_pos a1]] at CM
          clear hc
          go_wp2_with fail
          refine CM.mono ?_
          rintro e w1 ⟨rfl, rfl⟩
          clear CM
          go_wp2_with fail
          go_ret
          exact ⟨ret1 HC.out.symm, rfl⟩
        · rw [if_neg a1] at hc
          by_cases a2 : y < x
          · rw [if_pos a2] at hc
            have HC := Lib.hid hc
            rw [show cmpZ x y = 1 from by unfold cmpZ; rw [if_neg a1, if_pos a2]] at CM
            clear hc
            go_wp2_with fail
            refine CM.mono ?_
            rintro e w1 ⟨rfl, rfl⟩
            clear CM
            go_wp2_with fail
            go_ret
            exact ⟨ret1 HC.out.symm, rfl⟩
          · rw [if_neg a2] at hc
            have HC := Lib.hid hc
            rw [show cmpZ x y = 0 from by unfold cmpZ; rw [if_neg a1, if_neg a2]] at CM
            clear hc
            go_wp2_with fail
            refine CM.mono ?_
            rintro e w1 ⟨rfl, rfl⟩
            clear CM
            go_wp2_with fail
            go_round
            case rel => exact ⟨i + 1, by omega, by omega, by go_num, HC.out⟩
            case measure => simp [RowKit.intOf]; omega
      · rw [cmpL_r h1 h2] at hc
        have HC := Lib.hid hc
        have j0 : (0 : Int) ≤ (i : Int) := by omega
        have j1 : (i : Int) < (xs.length : Int) := by omega
        clear hc hx
        go_wp2_with fail
        go_ret
        exact ⟨ret1 HC.out.symm, rfl⟩
    · by_cases h2 : i < ys.length
      · rw [cmpL_l h1 h2] at hc
        have HC := Lib.hid hc
        clear hc
        go_wp2_with fail
        go_ret
        exact ⟨ret1 HC.out.symm, rfl⟩
      · rw [cmpL_e h1 h2] at hc
        have HC := Lib.hid hc
        clear hc
        go_wp2_with fail
        go_ret
        exact ⟨ret1 HC.out.symm, rfl⟩
/-- the folded runes of a text -/
def fr (s : ByteArray) : List Int := (rs s).map foldR
theorem fr_len (s : ByteArray) : (fr s).length ≤ s.size := by unfold fr; rw [List.length_map]; exact rs_len s
theorem fr_vr (s : ByteArray) : ∀ r ∈ fr s, VR r := map_vr (fun _ h => foldR_vr h) s
theorem rs_fold (s : ByteArray) : rs ⟨(foldL s).toArray⟩ = fr s := by
  unfold rs foldL
  exact runesL_enc (fr_vr s)
def lessS (a b : ByteArray) : Bool := lessR (fr a) (fr b)
def sameS (a b : ByteArray) : Bool := decide (fr a = fr b)
theorem foldL_inj {a b : ByteArray} (h : foldL a = foldL b) : fr a = fr b := encL_inj (fr_vr a) (fr_vr b) h
theorem foldL_eq (a b : ByteArray) : (foldL a == foldL b) = sameS a b := by
  unfold sameS
  rw [Bool.eq_iff_iff, beq_iff_eq, decide_eq_true_iff]
  exact ⟨foldL_inj, fun h => congrArg encL h⟩
set_option maxRecDepth 100000 in
set_option maxHeartbeats 1000000 in
theorem same_any (a b : ByteArray) (w : World) (ha : a.size ≤ 35184372088831) (hb : b.size ≤ 35184372088831) : Calls Try.prog 17 #[.string a, .string b] w fun e w' => e = .returned (.bool (sameS a b)) ∧ Below w.heap.size w w' := by
  have HS := Lib.hid (foldL_eq a b)
  go_enter Try.func17, Try.ntmps17
  go_wp2_with fail
  refine (pfold_any a w ha).mono ?_
  rintro e w1 ⟨rfl, b1⟩
  have B1 := Lib.hid b1
  clear b1
  go_wp2_with fail
  refine (pfold_any b w1 hb).mono ?_
  rintro e w2 ⟨rfl, b2⟩
  have B2 := Lib.hid (on B1.out b2)
  clear b2
  go_wp2_with fail
  go_ret
  exact ⟨retB (by rw [← HS.out]), B2.out⟩
set_option maxRecDepth 100000 in
set_option maxHeartbeats 1000000 in
theorem rsame_any (a b : ByteArray) (w : World) (ha : a.size ≤ 35184372088831) (hb : b.size ≤ 35184372088831) : Calls Try.prog 18 #[.string a, .string b] w fun e w' => e = .returned (.bool (sameS a b)) ∧ Below w.heap.size w w' := by
  have HS := Lib.hid (foldL_eq a b)
  go_enter Try.func18, Try.ntmps18
  go_wp2_with fail
  refine (rfoldS_any a w ha).mono ?_
  rintro e w1 ⟨rfl, b1⟩
  have B1 := Lib.hid b1
  clear b1
  go_wp2_with fail
  refine (rfoldS_any b w1 hb).mono ?_
  rintro e w2 ⟨rfl, b2⟩
  have B2 := Lib.hid (on B1.out b2)
  clear b2
  go_wp2_with fail
  go_ret
  exact ⟨retB (by rw [← HS.out]), B2.out⟩
set_option maxRecDepth 100000 in
set_option maxHeartbeats 1000000 in
theorem less_any (a b : ByteArray) (w : World) (ha : a.size ≤ 35184372088831) (hb : b.size ≤ 35184372088831) : Calls Try.prog 19 #[.string a, .string b] w fun e w' => e = .returned (.bool (lessS a b)) ∧ Below w.heap.size w w' := by
  have HS := Lib.hid (cmpL_less (fr a) (fr b))
  have hla := fr_len a
  have hlb := fr_len b
  have RA := rs_fold a
  have RB := rs_fold b
  go_enter Try.func19, Try.ntmps19
  go_wp2_with fail
  refine (pfold_any a w ha).mono ?_
  rintro e w1 ⟨rfl, b1⟩
  obtain ⟨pa, ca, w2, hc2, hs2, hm2, b2⟩ := run_runes _ _ RA w1 (by omega)
  have B2 := Lib.hid (on b1 b2)
  have S2 := Lib.hid hs2
  clear b1 b2 hs2
  unfold maxLen at hm2
  go_wp2_with fail
  refine (pfold_any b w2 hb).mono ?_
  rintro e w3 ⟨rfl, b3⟩
  obtain ⟨pb, cb, w4, hc4, hs4, hm4, b4⟩ := run_runes _ _ RB w3 (by omega)
  have S2' := Lib.hid ((S2.out.below b3).below b4)
  have B4 := Lib.hid (on (on B2.out b3) b4)
  have S4 := Lib.hid hs4
  clear b3 b4 hs4 B2 S2
  unfold maxLen at hm4
  go_wp2_with fail
  refine (compare_any _ _ pa pb ca cb w4 S2'.out S4.out).mono ?_
  rintro e w5 ⟨rfl, rfl⟩
  have hbd := cmpL_bd (fr a) (fr b)
  go_wp2_with fail
  go_ret
  exact ⟨retB (by rw [HS.out]; rfl), B4.out⟩
end Go.Proofs.Ytklfocciomngnaa
