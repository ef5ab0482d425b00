/- works. -/
import Derived.Test.YtklfocciomngnaaM
namespace Go.Proofs.Ytklfocciomngnaa
open Go.RowKit Go.Lib

theorem check_at {s : ByteArray} (v : Int) (w : World) (h : chkE (rs s) = v) (hs : s.size ≤ 9223372036854775807) : Calls Try.prog 10 #[.string s] w fun e w' => e = .returned (.int .i64 v) ∧ Below w.heap.size w w' := by
  subst h; exact check_any s w hs
theorem fold_at {s : ByteArray} (l : List UInt8) (w : World) (h : foldL s = l) (hs : s.size ≤ 35184372088831) : Calls Try.prog 14 #[.string s] w fun e w' => e = .returned (.string ⟨l.toArray⟩) ∧ Below w.heap.size w w' := by
  subst h; exact pfold_any s w hs
theorem same_at {a b : ByteArray} (v : Bool) (w : World) (h : sameS a b = v) (ha : a.size ≤ 35184372088831) (hb : b.size ≤ 35184372088831) : Calls Try.prog 17 #[.string a, .string b] w fun e w' => e = .returned (.bool v) ∧ Below w.heap.size w w' := by
  subst h; exact same_any a b w ha hb
theorem less_at {a b : ByteArray} (v : Bool) (w : World) (h : lessS a b = v) (ha : a.size ≤ 35184372088831) (hb : b.size ≤ 35184372088831) : Calls Try.prog 19 #[.string a, .string b] w fun e w' => e = .returned (.bool v) ∧ Below w.heap.size w w' := by
  subst h; exact less_any a b w ha hb
theorem cut_at {s : ByteArray} {n : Int} (l : List UInt8) (w : World) (h : cutL s n = l) (hs : s.size ≤ 35184372088831) (n0 : -9223372036854775808 ≤ n) (n1 : n ≤ 9223372036854775807) : Calls Try.prog 21 #[.string s, .int .i64 n] w fun e w' => e = .returned (.string ⟨l.toArray⟩) ∧ Below w.heap.size w w' := by
  subst h; exact pcut_any s n w hs ⟨n0, n1⟩
theorem runes_at2 {s : ByteArray} (k : Int) (w : World) (h : ((rs s).length : Int) = k) (hs : s.size ≤ 9223372036854775807) : Calls Try.prog 12 #[.string s] w fun e w' => e = .returned (.int .i64 k) ∧ Below w.heap.size w w' := by
  subst h; exact runes_any s w hs
set_option maxRecDepth 100000 in
set_option maxHeartbeats 1000000 in
theorem works_any (w : World) : Calls Try.prog 16 #[] w fun e w' => e = .returned (.bool true) ∧ Below w.heap.size w w' := by
  go_enter Try.func16, Try.ntmps16
  have B0 := Lib.hid (Below.refl w.heap.size w)
  go_wp2_with fail
  refine (check_at 0 _ (by kernel_rfl) (by decide)).mono ?_
  rintro e w' ⟨rfl, hb⟩
  replace B0 := Lib.hid (on B0.out hb)
  clear hb
  go_wp2_with fail
  refine (check_at 0 _ (by kernel_rfl) (by decide)).mono ?_
  rintro e w' ⟨rfl, hb⟩
  replace B0 := Lib.hid (on B0.out hb)
  clear hb
  go_wp2_with fail
  refine (check_at 10 _ (by kernel_rfl) (by decide)).mono ?_
  rintro e w' ⟨rfl, hb⟩
  replace B0 := Lib.hid (on B0.out hb)
  clear hb
  go_wp2_with fail
  refine (check_at 10 _ (by kernel_rfl) (by decide)).mono ?_
  rintro e w' ⟨rfl, hb⟩
  replace B0 := Lib.hid (on B0.out hb)
  clear hb
  go_wp2_with fail
  refine (check_at 10 _ (by kernel_rfl) (by decide)).mono ?_
  rintro e w' ⟨rfl, hb⟩
  replace B0 := Lib.hid (on B0.out hb)
  clear hb
  go_wp2_with fail
  refine (check_at 10 _ (by kernel_rfl) (by decide)).mono ?_
  rintro e w' ⟨rfl, hb⟩
  replace B0 := Lib.hid (on B0.out hb)
  clear hb
  go_wp2_with fail
  refine (fold_at [195, 164, 98, 95, 207, 137] _ (by kernel_rfl) (by decide)).mono ?_
  rintro e w' ⟨rfl, hb⟩
  replace B0 := Lib.hid (on B0.out hb)
  clear hb
  go_wp2_with fail
  refine (fold_at [239, 191, 189] _ (by kernel_rfl) (by decide)).mono ?_
  rintro e w' ⟨rfl, hb⟩
  replace B0 := Lib.hid (on B0.out hb)
  clear hb
  go_wp2_with fail
  refine (same_at true _ (by kernel_rfl) (by decide) (by decide)).mono ?_
  rintro e w' ⟨rfl, hb⟩
  replace B0 := Lib.hid (on B0.out hb)
  clear hb
  go_wp2_with fail
  refine (less_at true _ (by kernel_rfl) (by decide) (by decide)).mono ?_
  rintro e w' ⟨rfl, hb⟩
  replace B0 := Lib.hid (on B0.out hb)
  clear hb
  go_wp2_with fail
  refine (less_at false _ (by kernel_rfl) (by decide) (by decide)).mono ?_
  rintro e w' ⟨rfl, hb⟩
  replace B0 := Lib.hid (on B0.out hb)
  clear hb
  go_wp2_with fail
  refine (cut_at [195, 164, 195, 182] _ (by kernel_rfl) (by decide) (by decide) (by decide)).mono ?_
  rintro e w' ⟨rfl, hb⟩
  replace B0 := Lib.hid (on B0.out hb)
  clear hb
  go_wp2_with fail
  refine (runes_at2 3 _ (by kernel_rfl) (by decide)).mono ?_
  rintro e w' ⟨rfl, hb⟩
  replace B0 := Lib.hid (on B0.out hb)
  clear hb
  go_wp2_with fail
  go_ret
  exact ⟨rfl, B0.out⟩
end Go.Proofs.Ytklfocciomngnaa
