/- EqInts. -/
import Derived.Test.YthmkmjoeceghiaaPA
import Derived.Test.YthmkmjoeceghiaaK
namespace Go.Proofs.Ythmkmjoeceghiaa
open Go.RowKit

attribute [local go_sem ↓] Go.wp_at_zero Go.wp_at_succ
set_option maxRecDepth 100000 in
set_option maxHeartbeats 400000 in
theorem eqints_any (xs ys : List Int) (a c : Option Addr) (ka kc : Nat) (w : World) (hx : IsSl encI w a xs) (hy : IsSl encI w c ys) :
    Calls Try.prog 30 #[.slice a xs.length ka, .slice c ys.length kc] w fun e w' => e = .returned (.bool (decide (xs = ys))) ∧ Below w.heap.size w w' := by
  have HX := Lib.hid hx
  have HY := Lib.hid hy
  have hlx := hx.len
  have hly := hy.len
  clear hx hy
  by_cases hl : xs.length = ys.length
  · have hl1 : ((xs.length : Int) != (ys.length : Int)) = false := by simp; omega
    have hll : xs.length ≤ ys.length := by omega
    have HL := Lib.hid hl
    clear hl
    go_enter Try.func30, Try.ntmps30
    go_wp2_with fail
    go_loopw [5] (fun i wr => ∃ k : Nat, k ≤ xs.length ∧ i = .int .i64 k ∧ (∀ j, j < k → xs[j]? = ys[j]?) ∧ Below w.heap.size w wr) (fun i _ => xs.length - (intOf i).toNat)
    case atStart => exact ⟨0, Nat.zero_le _, rfl, fun j hj => by omega, Below.refl _ _⟩
    case round =>
      obtain ⟨k, hk, rfl, hE, hb⟩ := hrel
      have HE := Lib.hid hE
      have HB := Lib.hid hb
      have SX := HX.out.below hb
      have SY := HY.out.below hb
      clear hE hb
      by_cases hlt : k < xs.length
      · obtain ⟨b1, o1, x, rfl, hxk, c1⟩ := SX.at hlt
        obtain ⟨b2, o2, y, rfl, hyk, c2⟩ := SY.at (show k < ys.length by omega)
        have XK := Lib.hid hxk
        have YK := Lib.hid hyk
        have h0 : (0 : Int) ≤ (k : Int) := by omega
        have h1 : (k : Int) < (xs.length : Int) := by omega
        have h2 : (k : Int) < (ys.length : Int) := by omega
        clear SX SY hxk hyk
        by_cases hxy : x = y
        · obtain rfl := hxy
          go_wp2_with fail
          go_quiet (fail)
          go_wp2_with fail
          go_roundw
          case rel => exact ⟨k + 1, by omega, by go_num, fun j hj => (by
            by_cases e : j = k
            · rw [e, XK.out, YK.out]
            · exact HE.out j (by omega)), below_drewN HB.out _⟩
          case measure => simp [intOf]; omega
        · have hne : (x != y) = true := by simpa using hxy
          have hf : decide (xs = ys) = false := by
            rw [decide_eq_false_iff_not]; intro e; apply hxy
            have h3 := XK.out; rw [e, YK.out] at h3; exact (Option.some.inj h3).symm
          have HF := Lib.hid hf
          clear hf hxy
          go_wp2_with fail
          go_quiet (fail)
          go_wp2_with fail
          go_ret
          exact ⟨retB HF.out.symm, below_drewN HB.out _⟩
      · obtain rfl : k = xs.length := by omega
        have hf : decide (xs = ys) = true := by
          rw [decide_eq_true_iff]
          refine List.ext_getElem? fun j => ?_
          by_cases h : j < xs.length
          · exact HE.out j h
          · have := HL.out
            rw [List.getElem?_eq_none (by omega), List.getElem?_eq_none (by omega)]
        have HF := Lib.hid hf
        clear hf SX SY
        go_wp2_with fail
        go_ret
        exact ⟨retB HF.out.symm, HB.out⟩
  · have hl1 : ((xs.length : Int) != (ys.length : Int)) = true := by simp; omega
    have hf : decide (xs = ys) = false := by rw [decide_eq_false_iff_not]; intro e; rw [e] at hl; exact hl rfl
    have HF := Lib.hid hf
    clear hf hl
    go_enter Try.func30, Try.ntmps30
    go_wp2_with fail
    go_ret
    exact ⟨retB HF.out.symm, Below.refl _ _⟩

theorem eqints_at (xs ys : List Int) (r : Bool) (a c : Option Addr) (la lc ka kc : Nat) (w : World) (h1 : xs.length = la) (h2 : ys.length = lc) (hr : decide (xs = ys) = r) (hx : IsSl encI w a xs) (hy : IsSl encI w c ys) :
    Calls Try.prog 30 #[.slice a la ka, .slice c lc kc] w fun e w' => e = .returned (.bool r) ∧ Below w.heap.size w w' := by
  subst h1 h2 hr; exact eqints_any xs ys a c ka kc w hx hy
end Go.Proofs.Ythmkmjoeceghiaa
