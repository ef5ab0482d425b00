/- The laws of orders and of cuts. -/
import Derived.Test.YtklfocciomngnaaP
namespace Go.Proofs.Ytklfocciomngnaa
open Go.RowKit Go.Lib

theorem one_at {a b c : Bool} (v : Bool) (w : World) (h : oneB a b c = v) : Calls Try.prog 24 #[.bool a, .bool b, .bool c] w fun e w' => e = .returned (.bool v) ∧ Below w.heap.size w w' := by
  subst h
  refine (one_any a b c w).mono ?_
  rintro e w' ⟨h, rfl⟩
  exact ⟨h, Below.refl _ _⟩
set_option maxRecDepth 100000 in
set_option maxHeartbeats 4000000 in
theorem orderlaw_any (a b c : ByteArray) (w : World) (ha : a.size ≤ 35184372088831) (hb : b.size ≤ 35184372088831) (hc : c.size ≤ 35184372088831) : Calls Try.prog 7 #[.string a, .string b, .string c] w fun e w' => e = .returned (.bool true) ∧ Below w.heap.size w w' := by
  have HA := Lib.hid ha
  have HB := Lib.hid hb
  have HC := Lib.hid hc
  clear ha hb hc
  have L0 := Lib.hid (show lessS a a = false from lessR_irr _)
  have S0 := Lib.hid (show sameS a a = true from by simp [sameS])
  have B0 := Lib.hid (Below.refl w.heap.size w)
  rcases lessR_tri (fr a) (fr b) with ⟨h1, h2, h3⟩ | ⟨h1, h2, h3⟩ | ⟨h1, h2, h3⟩
  · have L1 := Lib.hid (show lessS a b = true from h1)
    have L2 := Lib.hid (show lessS b a = false from h2)
    have S1 := Lib.hid (show sameS a b = false from by simpa [sameS] using h3)
    clear h2 h3
    cases hx : lessS b c with
    | true =>
      have L3 := Lib.hid hx
      have L4 := Lib.hid (show lessS a c = true from lessR_trans _ _ _ h1 hx)
      clear h1 hx
      go_enter Try.func7, Try.ntmps7
      go_wp2_with fail
      refine (less_at true _ L1.out HA.out HB.out).mono ?_
      rintro e w' ⟨rfl, hb⟩
      replace B0 := Lib.hid (on B0.out hb)
      clear hb
      go_wp2_with fail
      refine (less_at false _ L2.out HB.out HA.out).mono ?_
      rintro e w' ⟨rfl, hb⟩
      replace B0 := Lib.hid (on B0.out hb)
      clear hb
      go_wp2_with fail
      refine (same_at false _ S1.out HA.out HB.out).mono ?_
      rintro e w' ⟨rfl, hb⟩
      replace B0 := Lib.hid (on B0.out hb)
      clear hb
      go_wp2_with fail
      refine (one_at true _ rfl).mono ?_
      rintro e w' ⟨rfl, hb⟩
      replace B0 := Lib.hid (on B0.out hb)
      clear hb
      go_wp2_with fail
      refine (less_at false _ L0.out HA.out HA.out).mono ?_
      rintro e w' ⟨rfl, hb⟩
      replace B0 := Lib.hid (on B0.out hb)
      clear hb
      go_wp2_with fail
      refine (same_at true _ S0.out HA.out HA.out).mono ?_
      rintro e w' ⟨rfl, hb⟩
      replace B0 := Lib.hid (on B0.out hb)
      clear hb
      go_wp2_with fail
      refine (less_at true _ L1.out HA.out HB.out).mono ?_
      rintro e w' ⟨rfl, hb⟩
      replace B0 := Lib.hid (on B0.out hb)
      clear hb
      go_wp2_with fail
      refine (less_at true _ L3.out HB.out HC.out).mono ?_
      rintro e w' ⟨rfl, hb⟩
      replace B0 := Lib.hid (on B0.out hb)
      clear hb
      go_wp2_with fail
      refine (less_at true _ L4.out HA.out HC.out).mono ?_
      rintro e w' ⟨rfl, hb⟩
      replace B0 := Lib.hid (on B0.out hb)
      clear hb
      go_wp2_with fail
      refine (same_at false _ S1.out HA.out HB.out).mono ?_
      rintro e w' ⟨rfl, hb⟩
      replace B0 := Lib.hid (on B0.out hb)
      clear hb
      go_wp2_with fail
      refine (works_any _).mono ?_
      rintro e w' ⟨rfl, hb⟩
      replace B0 := Lib.hid (on B0.out hb)
      clear hb
      go_wp2_with fail
      go_ret
      exact ⟨rfl, B0.out⟩
    | false =>
      have L3 := Lib.hid hx
      clear h1 hx
      go_enter Try.func7, Try.ntmps7
      go_wp2_with fail
      refine (less_at true _ L1.out HA.out HB.out).mono ?_
      rintro e w' ⟨rfl, hb⟩
      replace B0 := Lib.hid (on B0.out hb)
      clear hb
      go_wp2_with fail
      refine (less_at false _ L2.out HB.out HA.out).mono ?_
      rintro e w' ⟨rfl, hb⟩
      replace B0 := Lib.hid (on B0.out hb)
      clear hb
      go_wp2_with fail
      refine (same_at false _ S1.out HA.out HB.out).mono ?_
      rintro e w' ⟨rfl, hb⟩
      replace B0 := Lib.hid (on B0.out hb)
      clear hb
      go_wp2_with fail
      refine (one_at true _ rfl).mono ?_
      rintro e w' ⟨rfl, hb⟩
      replace B0 := Lib.hid (on B0.out hb)
      clear hb
      go_wp2_with fail
      refine (less_at false _ L0.out HA.out HA.out).mono ?_
      rintro e w' ⟨rfl, hb⟩
      replace B0 := Lib.hid (on B0.out hb)
      clear hb
      go_wp2_with fail
      refine (same_at true _ S0.out HA.out HA.out).mono ?_
      rintro e w' ⟨rfl, hb⟩
      replace B0 := Lib.hid (on B0.out hb)
      clear hb
      go_wp2_with fail
      refine (less_at true _ L1.out HA.out HB.out).mono ?_
      rintro e w' ⟨rfl, hb⟩
      replace B0 := Lib.hid (on B0.out hb)
      clear hb
      go_wp2_with fail
      refine (less_at false _ L3.out HB.out HC.out).mono ?_
      rintro e w' ⟨rfl, hb⟩
      replace B0 := Lib.hid (on B0.out hb)
      clear hb
      go_wp2_with fail
      refine (same_at false _ S1.out HA.out HB.out).mono ?_
      rintro e w' ⟨rfl, hb⟩
      replace B0 := Lib.hid (on B0.out hb)
      clear hb
      go_wp2_with fail
      refine (works_any _).mono ?_
      rintro e w' ⟨rfl, hb⟩
      replace B0 := Lib.hid (on B0.out hb)
      clear hb
      go_wp2_with fail
      go_ret
      exact ⟨rfl, B0.out⟩
  · have L1 := Lib.hid (show lessS a b = false from h1)
    have L2 := Lib.hid (show lessS b a = true from h2)
    have S1 := Lib.hid (show sameS a b = false from by simpa [sameS] using h3)
    clear h1 h2 h3
    go_enter Try.func7, Try.ntmps7
    go_wp2_with fail
    refine (less_at false _ L1.out HA.out HB.out).mono ?_
    rintro e w' ⟨rfl, hb⟩
    replace B0 := Lib.hid (on B0.out hb)
    clear hb
    go_wp2_with fail
    refine (less_at true _ L2.out HB.out HA.out).mono ?_
    rintro e w' ⟨rfl, hb⟩
    replace B0 := Lib.hid (on B0.out hb)
    clear hb
    go_wp2_with fail
    refine (same_at false _ S1.out HA.out HB.out).mono ?_
    rintro e w' ⟨rfl, hb⟩
    replace B0 := Lib.hid (on B0.out hb)
    clear hb
    go_wp2_with fail
    refine (one_at true _ rfl).mono ?_
    rintro e w' ⟨rfl, hb⟩
    replace B0 := Lib.hid (on B0.out hb)
    clear hb
    go_wp2_with fail
    refine (less_at false _ L0.out HA.out HA.out).mono ?_
    rintro e w' ⟨rfl, hb⟩
    replace B0 := Lib.hid (on B0.out hb)
    clear hb
    go_wp2_with fail
    refine (same_at true _ S0.out HA.out HA.out).mono ?_
    rintro e w' ⟨rfl, hb⟩
    replace B0 := Lib.hid (on B0.out hb)
    clear hb
    go_wp2_with fail
    refine (less_at false _ L1.out HA.out HB.out).mono ?_
    rintro e w' ⟨rfl, hb⟩
    replace B0 := Lib.hid (on B0.out hb)
    clear hb
    go_wp2_with fail
    refine (same_at false _ S1.out HA.out HB.out).mono ?_
    rintro e w' ⟨rfl, hb⟩
    replace B0 := Lib.hid (on B0.out hb)
    clear hb
    go_wp2_with fail
    refine (works_any _).mono ?_
    rintro e w' ⟨rfl, hb⟩
    replace B0 := Lib.hid (on B0.out hb)
    clear hb
    go_wp2_with fail
    go_ret
    exact ⟨rfl, B0.out⟩
  · have L1 := Lib.hid (show lessS a b = false from h1)
    have L2 := Lib.hid (show lessS b a = false from h2)
    have S1 := Lib.hid (show sameS a b = true from by simpa [sameS] using h3)
    obtain ⟨x, hx⟩ : ∃ x, lessS b c = x := ⟨_, rfl⟩
    have L3 := Lib.hid hx
    have L4 := Lib.hid (show lessS a c = x from by rw [← hx]; unfold lessS; rw [h3])
    clear h1 h2 h3 hx
    go_enter Try.func7, Try.ntmps7
    go_wp2_with fail
    refine (less_at false _ L1.out HA.out HB.out).mono ?_
    rintro e w' ⟨rfl, hb⟩
    replace B0 := Lib.hid (on B0.out hb)
    clear hb
    go_wp2_with fail
    refine (less_at false _ L2.out HB.out HA.out).mono ?_
    rintro e w' ⟨rfl, hb⟩
    replace B0 := Lib.hid (on B0.out hb)
    clear hb
    go_wp2_with fail
    refine (same_at true _ S1.out HA.out HB.out).mono ?_
    rintro e w' ⟨rfl, hb⟩
    replace B0 := Lib.hid (on B0.out hb)
    clear hb
    go_wp2_with fail
    refine (one_at true _ rfl).mono ?_
    rintro e w' ⟨rfl, hb⟩
    replace B0 := Lib.hid (on B0.out hb)
    clear hb
    go_wp2_with fail
    refine (less_at false _ L0.out HA.out HA.out).mono ?_
    rintro e w' ⟨rfl, hb⟩
    replace B0 := Lib.hid (on B0.out hb)
    clear hb
    go_wp2_with fail
    refine (same_at true _ S0.out HA.out HA.out).mono ?_
    rintro e w' ⟨rfl, hb⟩
    replace B0 := Lib.hid (on B0.out hb)
    clear hb
    go_wp2_with fail
    refine (less_at false _ L1.out HA.out HB.out).mono ?_
    rintro e w' ⟨rfl, hb⟩
    replace B0 := Lib.hid (on B0.out hb)
    clear hb
    go_wp2_with fail
    refine (same_at true _ S1.out HA.out HB.out).mono ?_
    rintro e w' ⟨rfl, hb⟩
    replace B0 := Lib.hid (on B0.out hb)
    clear hb
    go_wp2_with fail
    refine (less_at x _ L3.out HB.out HC.out).mono ?_
    rintro e w' ⟨rfl, hb⟩
    replace B0 := Lib.hid (on B0.out hb)
    clear hb
    go_wp2_with fail
    refine (less_at x _ L4.out HA.out HC.out).mono ?_
    rintro e w' ⟨rfl, hb⟩
    replace B0 := Lib.hid (on B0.out hb)
    clear hb
    go_wp2_with fail
    refine (works_any _).mono ?_
    rintro e w' ⟨rfl, hb⟩
    replace B0 := Lib.hid (on B0.out hb)
    clear hb
    go_wp2_with fail
    go_ret
    exact ⟨rfl, B0.out⟩
theorem cut_rs (s : ByteArray) (n : Int) : rs ⟨(cutL s n).toArray⟩ = (rs s).take n.toNat := rs_enc fun r hr => rs_vr s r (List.mem_of_mem_take hr)
theorem cut_size (s : ByteArray) (n : Int) : (⟨(cutL s n).toArray⟩ : ByteArray).size ≤ 4 * s.size := by
  have := @enc_size ((rs s).take n.toNat)
  have h := rs_len s
  simp only [List.length_take] at this
  unfold cutL
  omega
set_option maxRecDepth 100000 in
set_option maxHeartbeats 2000000 in
theorem cutlaw_any (s : ByteArray) (n : Int) (w : World) (hs : s.size ≤ 1048576) (n0 : -9223372036854775808 ≤ n) (n1 : n ≤ 9223372036854775807) : Calls Try.prog 8 #[.string s, .int .i64 n] w fun e w' => e = .returned (.bool true) ∧ Below w.heap.size w w' := by
  have hl := rs_len s
  have hz := cut_size s n
  obtain ⟨k, hk⟩ : ∃ k : Nat, (rs s).length = k := ⟨_, rfl⟩
  obtain ⟨f, hf⟩ : ∃ f, cutL s n = f := ⟨_, rfl⟩
  have hrf : rs ⟨f.toArray⟩ = (rs s).take n.toNat := by rw [← hf]; exact cut_rs s n
  have C1 := Lib.hid (show cutL ⟨f.toArray⟩ n = f by rw [← hf]; unfold cutL; rw [rs_enc (fun r hr => rs_vr s r (List.mem_of_mem_take hr)), List.take_take, Nat.min_self])
  have hkl : ((rs ⟨f.toArray⟩).length : Int) = max 0 (min n (k : Int)) := by rw [hrf, List.length_take, hk]; omega
  have K1 := Lib.hid hkl
  have HK := Lib.hid (show ((rs s).length : Int) = (k : Int) by rw [hk])
  obtain ⟨g, hg⟩ : ∃ g, encL (rs s) = g := ⟨_, rfl⟩
  have C2 := Lib.hid (show cutL s (k : Int) = g by rw [← hg]; unfold cutL; rw [List.take_of_length_le (by omega)])
  have C3 := Lib.hid (show cutL s 4611686018427387904 = g by rw [← hg]; unfold cutL; rw [List.take_of_length_le (by omega)])
  have K2 := Lib.hid (show ((rs (s ++ ⟨f.toArray⟩)).length : Int) = (k : Int) + max 0 (min n (k : Int)) by
    rw [← hkl, ← hk]
    have : rs (s ++ ⟨f.toArray⟩) = rs s ++ rs ⟨f.toArray⟩ := by
      rw [hrf]
      unfold rs
      rw [ByteArray.data_append, Array.toList_append, ← hf]
      exact runes_app (fun r hr => rs_vr s r (List.mem_of_mem_take hr)) _
    rw [this, List.length_append]
    omega)
  have HF := Lib.hid hf
  rw [hf] at hz
  have hz2 : (s ++ ⟨f.toArray⟩ : ByteArray).size ≤ 5242880 := by rw [ByteArray.size_append]; omega
  have hkz : k ≤ s.size := by omega
  have m0 : 0 ≤ max 0 (min n (k : Int)) := by omega
  have m1 : max 0 (min n (k : Int)) ≤ k := by omega
  have ZF := Lib.hid (show (⟨f.toArray⟩ : ByteArray).size ≤ 4194304 by omega)
  have Z2 := Lib.hid hz2
  clear hl hk hf hrf hkl hg
  go_enter Try.func8, Try.ntmps8
  have B0 := Lib.hid (Below.refl w.heap.size w)
  go_wp2_with fail
  refine (cut_at f _ HF.out (by omega) n0 n1).mono ?_
  rintro e w' ⟨rfl, hb⟩
  replace B0 := Lib.hid (on B0.out hb)
  clear hb
  go_wp2_with fail
  refine (runes_at2 (k : Int) _ HK.out (by omega)).mono ?_
  rintro e w' ⟨rfl, hb⟩
  replace B0 := Lib.hid (on B0.out hb)
  clear hb
  go_wp2_with fail
  refine (runes_at2 (max 0 (min n (k : Int))) _ K1.out (Nat.le_trans ZF.out (by decide))).mono ?_
  rintro e w' ⟨rfl, hb⟩
  replace B0 := Lib.hid (on B0.out hb)
  clear hb
  go_wp2_with fail
  refine (cut_at f _ C1.out (Nat.le_trans ZF.out (by decide)) n0 n1).mono ?_
  rintro e w' ⟨rfl, hb⟩
  replace B0 := Lib.hid (on B0.out hb)
  clear hb
  go_wp2_with fail
  refine (cut_at g _ C2.out (by omega) (by omega) (by omega)).mono ?_
  rintro e w' ⟨rfl, hb⟩
  replace B0 := Lib.hid (on B0.out hb)
  clear hb
  go_wp2_with fail
  refine (cut_at g _ C3.out (by omega) (by omega) (by omega)).mono ?_
  rintro e w' ⟨rfl, hb⟩
  replace B0 := Lib.hid (on B0.out hb)
  clear hb
  go_wp2_with fail
  refine (runes_at2 ((k : Int) + max 0 (min n (k : Int))) _ K2.out (Nat.le_trans Z2.out (by decide))).mono ?_
  rintro e w' ⟨rfl, hb⟩
  replace B0 := Lib.hid (on B0.out hb)
  clear hb
  go_wp2_with fail
  refine (runes_at2 (max 0 (min n (k : Int))) _ K1.out (Nat.le_trans ZF.out (by decide))).mono ?_
  rintro e w' ⟨rfl, hb⟩
  replace B0 := Lib.hid (on B0.out hb)
  clear hb
  go_wp2_with fail
  refine (works_any _).mono ?_
  rintro e w' ⟨rfl, hb⟩
  replace B0 := Lib.hid (on B0.out hb)
  clear hb
  go_wp2_with fail
  go_ret
  exact ⟨rfl, B0.out⟩
end Go.Proofs.Ytklfocciomngnaa
