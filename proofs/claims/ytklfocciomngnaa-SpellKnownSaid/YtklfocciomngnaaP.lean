/- The laws of names, pairs, cuts, folds, orders. -/
import Derived.Test.YtklfocciomngnaaN
namespace Go.Proofs.Ytklfocciomngnaa
open Go.RowKit Go.Lib

theorem rcheck_at {s : ByteArray} (v : Int) (w : World) (h : chkE (rs s) = v) (hs : s.size ≤ 35184372088831) : Calls Try.prog 11 #[.string s] w fun e w' => e = .returned (.int .i64 v) ∧ Below w.heap.size w w' := by
  subst h; exact rcheck_any s w hs
theorem rcount_at {s : ByteArray} (k : Int) (w : World) (h : ((rs s).length : Int) = k) (hs : s.size ≤ 35184372088831) : Calls Try.prog 13 #[.string s] w fun e w' => e = .returned (.int .i64 k) ∧ Below w.heap.size w w' := by
  subst h; exact rcount_any s w hs
theorem rfoldS_at {s : ByteArray} (l : List UInt8) (w : World) (h : foldL s = l) (hs : s.size ≤ 35184372088831) : Calls Try.prog 15 #[.string s] w fun e w' => e = .returned (.string ⟨l.toArray⟩) ∧ Below w.heap.size w w' := by
  subst h; exact rfoldS_any s w hs
theorem rsame_at {a b : ByteArray} (v : Bool) (w : World) (h : sameS a b = v) (ha : a.size ≤ 35184372088831) (hb : b.size ≤ 35184372088831) : Calls Try.prog 18 #[.string a, .string b] w fun e w' => e = .returned (.bool v) ∧ Below w.heap.size w w' := by
  subst h; exact rsame_any a b w ha hb
theorem rless_at {a b : ByteArray} (v : Bool) (w : World) (h : lessS a b = v) (ha : a.size ≤ 35184372088831) (hb : b.size ≤ 35184372088831) : Calls Try.prog 20 #[.string a, .string b] w fun e w' => e = .returned (.bool v) ∧ Below w.heap.size w w' := by
  subst h; exact rless_any a b w ha hb
theorem rcut_at {s : ByteArray} {n : Int} (l : List UInt8) (w : World) (h : cutL s n = l) (hs : s.size ≤ 35184372088831) : Calls Try.prog 22 #[.string s, .int .i64 n] w fun e w' => e = .returned (.string ⟨l.toArray⟩) ∧ Below w.heap.size w w' := by
  subst h; exact rcut_any s n w hs
theorem great_at {s : ByteArray} (l : List UInt8) (w : World) (h : greatL s = l) (hs : s.size ≤ 35184372088831) : Calls Try.prog 23 #[.string s] w fun e w' => e = .returned (.string ⟨l.toArray⟩) ∧ Below w.heap.size w w' := by
  subst h; exact great_any s w hs
set_option maxRecDepth 100000 in
set_option maxHeartbeats 1000000 in
theorem names_any (s : ByteArray) (w : World) (hs : s.size ≤ 35184372088831) : Calls Try.prog 3 #[.string s] w fun e w' => e = .returned (.bool true) ∧ Below w.heap.size w w' := by
  have hl := rs_len s
  have he : ∃ x, chkE (rs s) = x := ⟨_, rfl⟩
  obtain ⟨x, hx⟩ := he
  obtain ⟨k, hk⟩ : ∃ k : Int, ((rs s).length : Int) = k := ⟨_, rfl⟩
  obtain ⟨f, hf⟩ : ∃ f, foldL s = f := ⟨_, rfl⟩
  have HX := Lib.hid hx
  have HK := Lib.hid hk
  have HF := Lib.hid hf
  clear hx hk hf hl
  go_enter Try.func3, Try.ntmps3
  have B0 := Lib.hid (Below.refl w.heap.size w)
  go_wp2_with fail
  refine (check_at x _ HX.out (by omega)).mono ?_
  rintro e w' ⟨rfl, hb⟩
  replace B0 := Lib.hid (on B0.out hb)
  clear hb
  go_wp2_with fail
  refine (rcheck_at x _ HX.out hs).mono ?_
  rintro e w' ⟨rfl, hb⟩
  replace B0 := Lib.hid (on B0.out hb)
  clear hb
  go_wp2_with fail
  refine (runes_at2 k _ HK.out (by omega)).mono ?_
  rintro e w' ⟨rfl, hb⟩
  replace B0 := Lib.hid (on B0.out hb)
  clear hb
  go_wp2_with fail
  refine (rcount_at k _ HK.out hs).mono ?_
  rintro e w' ⟨rfl, hb⟩
  replace B0 := Lib.hid (on B0.out hb)
  clear hb
  go_wp2_with fail
  refine (fold_at f _ HF.out hs).mono ?_
  rintro e w' ⟨rfl, hb⟩
  replace B0 := Lib.hid (on B0.out hb)
  clear hb
  go_wp2_with fail
  refine (rfoldS_at f _ HF.out hs).mono ?_
  rintro e w' ⟨rfl, hb⟩
  replace B0 := Lib.hid (on B0.out hb)
  clear hb
  go_wp2_with fail
  refine (works_any _).mono ?_
  rintro e w' ⟨rfl, hb⟩
  replace B0 := Lib.hid (on B0.out hb)
  clear hb
  go_wp2_with fail
  go_ret
  exact ⟨rfl, B0.out⟩
set_option maxRecDepth 100000 in
set_option maxHeartbeats 1000000 in
theorem pairs_any (a b : ByteArray) (w : World) (ha : a.size ≤ 35184372088831) (hb : b.size ≤ 35184372088831) : Calls Try.prog 4 #[.string a, .string b] w fun e w' => e = .returned (.bool true) ∧ Below w.heap.size w w' := by
  obtain ⟨x, hx⟩ : ∃ x, sameS a b = x := ⟨_, rfl⟩
  obtain ⟨y, hy⟩ : ∃ y, lessS a b = y := ⟨_, rfl⟩
  have HX := Lib.hid hx
  have HY := Lib.hid hy
  have HA := Lib.hid ha
  have HB := Lib.hid hb
  clear hx hy hb ha
  go_enter Try.func4, Try.ntmps4
  have B0 := Lib.hid (Below.refl w.heap.size w)
  go_wp2_with fail
  refine (same_at x _ HX.out HA.out HB.out).mono ?_
  rintro e w' ⟨rfl, hb⟩
  replace B0 := Lib.hid (on B0.out hb)
  clear hb
  go_wp2_with fail
  refine (rsame_at x _ HX.out HA.out HB.out).mono ?_
  rintro e w' ⟨rfl, hb⟩
  replace B0 := Lib.hid (on B0.out hb)
  clear hb
  go_wp2_with fail
  refine (less_at y _ HY.out HA.out HB.out).mono ?_
  rintro e w' ⟨rfl, hb⟩
  replace B0 := Lib.hid (on B0.out hb)
  clear hb
  go_wp2_with fail
  refine (rless_at y _ HY.out HA.out HB.out).mono ?_
  rintro e w' ⟨rfl, hb⟩
  replace B0 := Lib.hid (on B0.out hb)
  clear hb
  go_wp2_with fail
  refine (works_any _).mono ?_
  rintro e w' ⟨rfl, hb⟩
  replace B0 := Lib.hid (on B0.out hb)
  clear hb
  go_wp2_with fail
  go_ret
  exact ⟨rfl, B0.out⟩
set_option maxRecDepth 100000 in
set_option maxHeartbeats 1000000 in
theorem cuts_any (s : ByteArray) (n : Int) (w : World) (hs : s.size ≤ 35184372088831) (n0 : -9223372036854775808 ≤ n) (n1 : n ≤ 9223372036854775807) : Calls Try.prog 5 #[.string s, .int .i64 n] w fun e w' => e = .returned (.bool true) ∧ Below w.heap.size w w' := by
  obtain ⟨f, hf⟩ : ∃ f, cutL s n = f := ⟨_, rfl⟩
  have HF := Lib.hid hf
  clear hf
  go_enter Try.func5, Try.ntmps5
  have B0 := Lib.hid (Below.refl w.heap.size w)
  go_wp2_with fail
  refine (cut_at f _ HF.out hs n0 n1).mono ?_
  rintro e w' ⟨rfl, hb⟩
  replace B0 := Lib.hid (on B0.out hb)
  clear hb
  go_wp2_with fail
  refine (rcut_at f _ HF.out hs).mono ?_
  rintro e w' ⟨rfl, hb⟩
  replace B0 := Lib.hid (on B0.out hb)
  clear hb
  go_wp2_with fail
  refine (works_any _).mono ?_
  rintro e w' ⟨rfl, hb⟩
  replace B0 := Lib.hid (on B0.out hb)
  clear hb
  go_wp2_with fail
  go_ret
  exact ⟨rfl, B0.out⟩
theorem rs_enc {l : List Int} (h : ∀ r ∈ l, VR r) : rs ⟨(encL l).toArray⟩ = l := by unfold rs; exact runesL_enc h
theorem enc_size {l : List Int} : (⟨(encL l).toArray⟩ : ByteArray).size ≤ 4 * l.length := by
  have := encL_len l
  simpa [ByteArray.size] using this
set_option maxRecDepth 100000 in
set_option maxHeartbeats 1000000 in
theorem foldlaw_any (s : ByteArray) (w : World) (hs : s.size ≤ 8796093022207) : Calls Try.prog 6 #[.string s] w fun e w' => e = .returned (.bool true) ∧ Below w.heap.size w w' := by
  have hl := rs_len s
  have hlf := fr_len s
  obtain ⟨x, hx⟩ : ∃ x, chkE (rs s) = x := ⟨_, rfl⟩
  obtain ⟨k, hk⟩ : ∃ k : Int, ((rs s).length : Int) = k := ⟨_, rfl⟩
  obtain ⟨f, hf⟩ : ∃ f, foldL s = f := ⟨_, rfl⟩
  obtain ⟨g, hg⟩ : ∃ g, greatL s = g := ⟨_, rfl⟩
  have zf : (⟨f.toArray⟩ : ByteArray).size ≤ 35184372088831 := by
    rw [← hf, show foldL s = encL (fr s) from rfl]; have := @enc_size (fr s); omega
  have zg : (⟨g.toArray⟩ : ByteArray).size ≤ 35184372088831 := by
    rw [← hg, show greatL s = encL ((rs s).map greatR) from rfl]; have := @enc_size ((rs s).map greatR); simp only [List.length_map] at this; omega
  have rf : rs ⟨f.toArray⟩ = fr s := by rw [← hf]; exact rs_fold s
  have rg : rs ⟨g.toArray⟩ = (rs s).map greatR := by rw [← hg]; exact rs_enc (map_vr (fun _ h => greatR_vr h) s)
  have ff : fr ⟨f.toArray⟩ = fr s := by unfold fr; rw [rf]; unfold fr; rw [List.map_map]; congr 1; funext r; exact foldR_foldR r
  have fg : fr ⟨g.toArray⟩ = fr s := by unfold fr; rw [rg, List.map_map]; congr 1; funext r; exact fold_great r
  have F1 := Lib.hid (show foldL ⟨f.toArray⟩ = f by rw [← hf, show ∀ t, foldL t = encL (fr t) from fun _ => rfl, hf, ff, ← hf]; rfl)
  have F2 := Lib.hid (show foldL ⟨g.toArray⟩ = f by rw [← hf, show ∀ t, foldL t = encL (fr t) from fun _ => rfl, fg]; rfl)
  have S1 := Lib.hid (show sameS s ⟨f.toArray⟩ = true by unfold sameS; rw [ff]; simp)
  have S2 := Lib.hid (show sameS ⟨g.toArray⟩ s = true by unfold sameS; rw [fg]; simp)
  have C1 := Lib.hid (show chkE (rs ⟨f.toArray⟩) = x by rw [rf, ← hx]; exact chkE_map okAt_fold _)
  have C2 := Lib.hid (show chkE (rs ⟨g.toArray⟩) = x by rw [rg, ← hx]; exact chkE_map okAt_great _)
  have K1 := Lib.hid (show ((rs ⟨f.toArray⟩).length : Int) = k by rw [rf, ← hk]; simp [fr])
  have HX := Lib.hid hx
  have HK := Lib.hid hk
  have HF := Lib.hid hf
  have HG := Lib.hid hg
  have ZF := Lib.hid zf
  have ZG := Lib.hid zg
  clear hx hk hf hg hl hlf rf rg ff fg zf zg
  go_enter Try.func6, Try.ntmps6
  have B0 := Lib.hid (Below.refl w.heap.size w)
  go_wp2_with fail
  refine (works_any _).mono ?_
  rintro e w' ⟨rfl, hb⟩
  replace B0 := Lib.hid (on B0.out hb)
  clear hb
  go_wp2_with fail
  refine (fold_at f _ HF.out (by omega)).mono ?_
  rintro e w' ⟨rfl, hb⟩
  replace B0 := Lib.hid (on B0.out hb)
  clear hb
  go_wp2_with fail
  refine (great_at g _ HG.out (by omega)).mono ?_
  rintro e w' ⟨rfl, hb⟩
  replace B0 := Lib.hid (on B0.out hb)
  clear hb
  go_wp2_with fail
  refine (fold_at f _ F1.out ZF.out).mono ?_
  rintro e w' ⟨rfl, hb⟩
  replace B0 := Lib.hid (on B0.out hb)
  clear hb
  go_wp2_with fail
  refine (same_at true _ S1.out (by omega) ZF.out).mono ?_
  rintro e w' ⟨rfl, hb⟩
  replace B0 := Lib.hid (on B0.out hb)
  clear hb
  go_wp2_with fail
  refine (same_at true _ S2.out ZG.out (by omega)).mono ?_
  rintro e w' ⟨rfl, hb⟩
  replace B0 := Lib.hid (on B0.out hb)
  clear hb
  go_wp2_with fail
  refine (fold_at f _ F2.out ZG.out).mono ?_
  rintro e w' ⟨rfl, hb⟩
  replace B0 := Lib.hid (on B0.out hb)
  clear hb
  go_wp2_with fail
  refine (check_at x _ C1.out (Nat.le_trans ZF.out (by decide))).mono ?_
  rintro e w' ⟨rfl, hb⟩
  replace B0 := Lib.hid (on B0.out hb)
  clear hb
  go_wp2_with fail
  refine (check_at x _ HX.out (by omega)).mono ?_
  rintro e w' ⟨rfl, hb⟩
  replace B0 := Lib.hid (on B0.out hb)
  clear hb
  go_wp2_with fail
  refine (check_at x _ C2.out (Nat.le_trans ZG.out (by decide))).mono ?_
  rintro e w' ⟨rfl, hb⟩
  replace B0 := Lib.hid (on B0.out hb)
  clear hb
  go_wp2_with fail
  refine (check_at x _ HX.out (by omega)).mono ?_
  rintro e w' ⟨rfl, hb⟩
  replace B0 := Lib.hid (on B0.out hb)
  clear hb
  go_wp2_with fail
  refine (runes_at2 k _ K1.out (Nat.le_trans ZF.out (by decide))).mono ?_
  rintro e w' ⟨rfl, hb⟩
  replace B0 := Lib.hid (on B0.out hb)
  clear hb
  go_wp2_with fail
  refine (runes_at2 k _ HK.out (by omega)).mono ?_
  rintro e w' ⟨rfl, hb⟩
  replace B0 := Lib.hid (on B0.out hb)
  clear hb
  go_wp2_with fail
  go_ret
  exact ⟨rfl, B0.out⟩
end Go.Proofs.Ytklfocciomngnaa
