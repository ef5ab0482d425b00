/- PickWindows: the walk. -/
import Derived.Test.YtlndhdficackcaaR
import Derived.Test.YtlndhdficackcaaQ
namespace Go.Proofs.Ytlndhdficackcaa
open Go.RowKit Go.Shelf

set_option maxRecDepth 100000 in
set_option maxHeartbeats 1000000 in
theorem pickwindows_any (xs : List Int) (a : Option Addr) (len cap : Nat) (n0 w0 : Int) (w : World) (hI : IsSl encI w a xs) (hxl : xs.length = len) (h1 : -9223372036854775808 ≤ n0 ∧ n0 ≤ 9223372036854775807) (h2 : -9223372036854775808 ≤ w0 ∧ w0 ≤ 9223372036854775807) :
    Calls Try.prog 7 #[.slice a len cap, .int .i64 n0, .int .i64 w0] w fun e w' => e = .returned (.bool true) ∧ Below w.heap.size w w' := by
  have hn0 : 0 ≤ n0 % 5 ∧ n0 % 5 < 5 := ⟨Int.emod_nonneg _ (by omega), Int.emod_lt_of_pos _ (by omega)⟩
  have hm0 : 0 ≤ w0 % 12 ∧ w0 % 12 < 12 := ⟨Int.emod_nonneg _ (by omega), Int.emod_lt_of_pos _ (by omega)⟩
  obtain ⟨n, hn⟩ : ∃ n : Nat, (1 + n0 % 5) = (n : Int) := ⟨(1 + n0 % 5).toNat, by omega⟩
  obtain ⟨wd, hm⟩ : ∃ m : Nat, (1 + w0 % 12) = (m : Int) := ⟨(1 + w0 % 12).toNat, by omega⟩
  have hn8 : 1 ≤ n ∧ n ≤ 8 := by omega
  have hm60 : 1 ≤ wd ∧ wd ≤ 12 := by omega
  have hlen := hI.len
  rw [hxl] at hlen
  obtain ⟨i0, hi, hz0, hz1, hz2⟩ := info_parts info3
  have HN := Lib.hid hn
  have HM := Lib.hid hm
  have HI := Lib.hid hI
  have HXL := Lib.hid hxl
  clear hn hm hI hxl
  go_enter Try.func7, Try.ntmps7
  go_wp2_with fail
  go_loopw [7, 8] (fun l i wr => ∃ k : Nat, k ≤ len ∧ k ≤ 60 ∧ i = .int .i64 k ∧ wr.ownsRow w.heap.size 3 1 l k (((xs.take k).map (· % 5)).map encI) ∧ Below w.heap.size w wr) (fun _ i _ => 60 - (intOf i).toNat)
  case atStart => exact ⟨0, by omega, by omega, rfl, World.ownsRow_nil _ _ _ _, Below.refl _ _⟩
  case round =>
    obtain ⟨k, hk, hk60, rfl, hown, hb⟩ := hrel
    have HB := Lib.hid hb
    have HO := Lib.hid hown
    clear hb hown
    by_cases hlt : k < len ∧ k < 60
    · obtain ⟨hlt, hlt2⟩ := hlt
      obtain ⟨b, off, x, rfl, hxk, hc⟩ := (HI.out.below HB.out).at (k := k) (by rw [HXL.out]; exact hlt)
      have htk := Lib.hid (take_succ hxk)
      clear hxk
      go_wp2_with fail
      refine (bring_any x 5 _ (by omega) (by omega)).mono ?_
      rintro e w2 ⟨rfl, rfl⟩
      have hown := HO.out
      have hsz3 := HB.out.size
      go_wp2_with (at_builtin; refine wpList_append_own _ rfl _ _ 27 rfl w.heap.size 3 i0 (.int .i64 0) 1 8 Try.underlying27 hi hz0 hz1 hz2 rfl (by decide) _ _ _ rfl (hown.alloc _) ⟨wr.heap.size, 0, none⟩ 1 1 [encI (x % 5)] rfl rfl (cell_one_new _ _ _) (by simp [Value.oneCell', encI]) (by unfold maxLen; omega) (by omega) (by simp; omega) ?_; intro v' w4 hown' hgrow _)
      replace HB := Lib.hid ((HB.out.alloc hsz3 _).grown hgrow (by simp; omega) (fun j ej => (hown.lt j ej).1))
      clear hgrow hown hsz3 HO
      go_wp2_with fail
      go_roundw
      case rel => exact ⟨k + 1, by omega, by omega, by go_num, by rw [htk.out]; simpa using hown', HB.out⟩
      case measure => simp [intOf]; omega
    · obtain ⟨l, hl⟩ : ∃ l, l = (xs.take k).map (· % 5) := ⟨_, rfl⟩
      have hll : l.length = k := by rw [hl, List.length_map, List.length_take, HXL.out]; omega
      obtain ⟨a', cap', rfl, hs, hf, -⟩ := isSl_of_owns (xs := l) (by rw [hll, hl]; exact HO.out)
      rw [hll]
      have HS := Lib.hid hs
      have HLL := Lib.hid hll
      clear hs hf HO hl hll
      have hst : ¬ ((k : Int) < len) ∨ ((k : Int) < len ∧ ¬ (k : Int) < 60) := by omega
      have key : ∀ Q : Prop, ((¬ ((k : Int) < len)) → Q) → (((k : Int) < len) → (¬ (k : Int) < 60) → Q) → Q := fun Q f g => hst.elim f (fun h => g h.1 h.2)
      clear hlt hst
      refine key _ (fun hk1 => ?_) (fun hk1 hk2 => ?_) <;> clear key
      · skip
        go_wp2_with fail
        refine (bring_any n0 5 _ (by omega) (by omega)).mono ?_
        rintro e w2 ⟨rfl, rfl⟩
        go_wp2_with fail
        refine (bring_any w0 12 _ (by omega) (by omega)).mono ?_
        rintro e w2 ⟨rfl, rfl⟩
        go_wp2_with fail
        simp only [HN.out, HM.out]
        go_loop [9, 10] (fun al at' => ∃ (A : Nat) (b : Bool), (A = 0 ∨ A + wd ≤ k + 1) ∧ at' = .int .i64 A ∧ al = .bool b ∧ (b = true ↔ allTo l n wd A 0)) (fun _ at' => 61 - (intOf at').toNat)
        case atStart => exact ⟨0, true, .inl rfl, rfl, rfl, by simp [allTo_zero]⟩
        case round =>
          obtain ⟨A, b, hA, rfl, rfl, hbA⟩ := hrel
          have HA := Lib.hid hbA
          clear hbA
          by_cases hAk : A + wd ≤ k
          · go_wp2_with fail
            go_loop [9, 11] (fun al c => ∃ (C : Nat) (b : Bool), C ≤ n ∧ c = .int .i64 C ∧ al = .bool b ∧ (b = true ↔ allTo l n wd A C)) (fun _ c => n - (intOf c).toNat)
            case atStart => exact ⟨0, b, by omega, rfl, rfl, HA.out⟩
            case round =>
              clear HA
              obtain ⟨C, b, hC, rfl, rfl, hbC⟩ := hrel
              have HC := Lib.hid hbC
              clear hbC
              by_cases hCn : C < n
              · have HQ := Lib.hid (allTo_c l n wd A C)
                go_wp2_with fail
                go_loop [12, 13] (fun is i => ∃ (j : Nat) (b : Bool), A ≤ j ∧ j ≤ A + wd ∧ i = .int .i64 j ∧ is = .bool b ∧ (b = true ↔ has l C A j)) (fun _ i => A + wd - (intOf i).toNat)
                case atStart => exact ⟨A, false, by omega, by omega, rfl, rfl, by simp [has_zero]⟩
                case round =>
                  obtain ⟨j, d, hj1, hj2, rfl, rfl, hbd⟩ := hrel
                  have HD := Lib.hid hbd
                  clear hbd
                  by_cases hjA : j < A + wd
                  · cases d with
                    | true =>
                      go_wp2_with fail
                      go_round
                      case rel => exact ⟨j + 1, true, by omega, by omega, by go_num, rfl, by simpa using has_mono (HD.out.1 rfl)⟩
                      case measure => simp [intOf]; omega
                    | false =>
                      obtain ⟨bb, off, x, rfl, hxk, hc⟩ := HS.out.at (k := j) (by rw [HLL.out]; omega)
                      have HX := Lib.hid hxk
                      clear hxk
                      by_cases hxc : x = C
                      · subst hxc
                        go_wp2_with fail
                        go_round
                        case rel => exact ⟨j + 1, true, by omega, by omega, by go_num, by simp, by simpa using has_hit hj1 HX.out⟩
                        case measure => simp [intOf]; omega
                      · have hbe : (x == (C : Int)) = false := by simpa using hxc
                        go_wp2_with fail
                        go_round
                        case rel => exact ⟨j + 1, false, by omega, by omega, by go_num, by simp, by simpa using has_miss (fun h => by simpa using HD.out.2 h) HX.out hxc⟩
                        case measure => simp [intOf]; omega
                  · obtain rfl : j = A + wd := by omega
                    cases b with
                    | true =>
                      go_wp2_with fail
                      go_round
                      case rel => exact ⟨C + 1, d, by omega, by go_num, rfl, by rw [HQ.out, ← HD.out, ← HC.out]; simp⟩
                      case measure => simp [intOf]; omega
                    | false =>
                      go_wp2_with fail
                      go_round
                      case rel => exact ⟨C + 1, false, by omega, by go_num, rfl, by rw [HQ.out, ← HC.out]; simp⟩
                      case measure => simp [intOf]; omega
              · obtain rfl : C = n := by omega
                go_wp2_with fail
                go_round
                case rel => exact ⟨A + 1, b, .inr (by omega), by go_num, rfl, by rw [allTo_a, ← HC.out]⟩
                case measure => simp [intOf]; omega
          · have HF := Lib.hid (fair_all hn8 hm60.1 (by rw [HLL.out]; omega) (by rw [HLL.out]; exact hA) HA.out)
            go_wp2_with fail
            refine (fair_at l _ _ n wd _ b _ HS.out HLL.out HF.out).mono ?_
            rintro e w2 ⟨rfl, rfl⟩
            go_wp2_with fail
            refine (works_any _).mono ?_
            rintro e w2 ⟨rfl, hb⟩
            go_wp2_with fail
            go_ret
            exact ⟨rfl, on HB.out hb⟩
      · skip
        go_wp2_with fail
        refine (bring_any n0 5 _ (by omega) (by omega)).mono ?_
        rintro e w2 ⟨rfl, rfl⟩
        go_wp2_with fail
        refine (bring_any w0 12 _ (by omega) (by omega)).mono ?_
        rintro e w2 ⟨rfl, rfl⟩
        go_wp2_with fail
        simp only [HN.out, HM.out]
        go_loop [9, 10] (fun al at' => ∃ (A : Nat) (b : Bool), (A = 0 ∨ A + wd ≤ k + 1) ∧ at' = .int .i64 A ∧ al = .bool b ∧ (b = true ↔ allTo l n wd A 0)) (fun _ at' => 61 - (intOf at').toNat)
        case atStart => exact ⟨0, true, .inl rfl, rfl, rfl, by simp [allTo_zero]⟩
        case round =>
          obtain ⟨A, b, hA, rfl, rfl, hbA⟩ := hrel
          have HA := Lib.hid hbA
          clear hbA
          by_cases hAk : A + wd ≤ k
          · go_wp2_with fail
            go_loop [9, 11] (fun al c => ∃ (C : Nat) (b : Bool), C ≤ n ∧ c = .int .i64 C ∧ al = .bool b ∧ (b = true ↔ allTo l n wd A C)) (fun _ c => n - (intOf c).toNat)
            case atStart => exact ⟨0, b, by omega, rfl, rfl, HA.out⟩
            case round =>
              clear HA
              obtain ⟨C, b, hC, rfl, rfl, hbC⟩ := hrel
              have HC := Lib.hid hbC
              clear hbC
              by_cases hCn : C < n
              · have HQ := Lib.hid (allTo_c l n wd A C)
                go_wp2_with fail
                go_loop [12, 13] (fun is i => ∃ (j : Nat) (b : Bool), A ≤ j ∧ j ≤ A + wd ∧ i = .int .i64 j ∧ is = .bool b ∧ (b = true ↔ has l C A j)) (fun _ i => A + wd - (intOf i).toNat)
                case atStart => exact ⟨A, false, by omega, by omega, rfl, rfl, by simp [has_zero]⟩
                case round =>
                  obtain ⟨j, d, hj1, hj2, rfl, rfl, hbd⟩ := hrel
                  have HD := Lib.hid hbd
                  clear hbd
                  by_cases hjA : j < A + wd
                  · cases d with
                    | true =>
                      go_wp2_with fail
                      go_round
                      case rel => exact ⟨j + 1, true, by omega, by omega, by go_num, rfl, by simpa using has_mono (HD.out.1 rfl)⟩
                      case measure => simp [intOf]; omega
                    | false =>
                      obtain ⟨bb, off, x, rfl, hxk, hc⟩ := HS.out.at (k := j) (by rw [HLL.out]; omega)
                      have HX := Lib.hid hxk
                      clear hxk
                      by_cases hxc : x = C
                      · subst hxc
                        go_wp2_with fail
                        go_round
                        case rel => exact ⟨j + 1, true, by omega, by omega, by go_num, by simp, by simpa using has_hit hj1 HX.out⟩
                        case measure => simp [intOf]; omega
                      · have hbe : (x == (C : Int)) = false := by simpa using hxc
                        go_wp2_with fail
                        go_round
                        case rel => exact ⟨j + 1, false, by omega, by omega, by go_num, by simp, by simpa using has_miss (fun h => by simpa using HD.out.2 h) HX.out hxc⟩
                        case measure => simp [intOf]; omega
                  · obtain rfl : j = A + wd := by omega
                    cases b with
                    | true =>
                      go_wp2_with fail
                      go_round
                      case rel => exact ⟨C + 1, d, by omega, by go_num, rfl, by rw [HQ.out, ← HD.out, ← HC.out]; simp⟩
                      case measure => simp [intOf]; omega
                    | false =>
                      go_wp2_with fail
                      go_round
                      case rel => exact ⟨C + 1, false, by omega, by go_num, rfl, by rw [HQ.out, ← HC.out]; simp⟩
                      case measure => simp [intOf]; omega
              · obtain rfl : C = n := by omega
                go_wp2_with fail
                go_round
                case rel => exact ⟨A + 1, b, .inr (by omega), by go_num, rfl, by rw [allTo_a, ← HC.out]⟩
                case measure => simp [intOf]; omega
          · have HF := Lib.hid (fair_all hn8 hm60.1 (by rw [HLL.out]; omega) (by rw [HLL.out]; exact hA) HA.out)
            go_wp2_with fail
            refine (fair_at l _ _ n wd _ b _ HS.out HLL.out HF.out).mono ?_
            rintro e w2 ⟨rfl, rfl⟩
            go_wp2_with fail
            refine (works_any _).mono ?_
            rintro e w2 ⟨rfl, hb⟩
            go_wp2_with fail
            go_ret
            exact ⟨rfl, on HB.out hb⟩
theorem pickwindows_arg {xs : List Int} {a : Option Addr} {len cap : Nat} {n0 w0 : Int} {w : World} (A : ArgSl encI w a len cap xs) (h1 : -9223372036854775808 ≤ n0 ∧ n0 ≤ 9223372036854775807) (h2 : -9223372036854775808 ≤ w0 ∧ w0 ≤ 9223372036854775807) :
    Calls Try.prog 7 #[.slice a len cap, .int .i64 n0, .int .i64 w0] w fun e w' => e = .returned (.bool true) ∧ Below w.heap.size w w' :=
  pickwindows_any xs a len cap n0 w0 w A.hsl A.hlen h1 h2
end Go.Proofs.Ytlndhdficackcaa
