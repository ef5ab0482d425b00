/- PickRound: the walk. -/
import Derived.Test.YtlndhdficackcaaP
import Derived.Test.YtlndhdficackcaaJ
namespace Go.Proofs.Ytlndhdficackcaa
open Go.RowKit Go.Shelf

theorem owns_below {w w' : World} {base : Nat} {e : TypeId} {size : Nat} {v : Value} {n : Nat} {xs : List Value} (h : w.ownsRow base e size v n xs) (hb : Below w.heap.size w w') : w'.ownsRow base e size v n xs :=
  h.kept (row := none) ⟨hb.os, hb.tape, hb.output, hb.size, fun k hk _ => hb.block k hk⟩ (by cases hv : v.ownBlock <;> simp)
theorem info4 : (Try.prog.info? 4).map (fun i => (i.zero, i.size, i.bytes)) = some (some (.bool false), 1, 1) := by kernel_rfl
theorem row_bools {wr : World} {g t n : Nat} {f : Nat → Value} (h : wr.rowIs g t n f) (hn : n ≤ 1000) (hf : ∀ j, j < n → f j = .bool true) : IsSl encB wr (some ⟨g, 0, none⟩) (List.replicate n true) :=
  ⟨by simp; omega, fun _ => ⟨g, 0, rfl, fun i x hx => by
    obtain ⟨hi, hxi⟩ := List.getElem?_eq_some_iff.1 hx
    simp only [List.length_replicate] at hi
    simp only [List.getElem_replicate] at hxi
    rw [Nat.zero_add, h.cell hi, hf i hi, ← hxi]⟩⟩
theorem row_store {wr : World} {g t n k : Nat} (h : wr.rowIs g t n (fun j => .bool (decide (j < k)))) : (wr.setCell ⟨g, k, none⟩ (.bool true)).rowIs g t n (fun j => .bool (decide (j < k + 1))) := by
  refine (h.set k _).congr fun d _ => ?_
  by_cases hd : d = k
  · subst hd; simp
  · simp only [if_neg hd]; congr 1; rw [decide_eq_decide]; omega

set_option maxRecDepth 100000 in
set_option maxHeartbeats 1000000 in
theorem pickround_any (n0 f m0 : Int) (w : World) (h0 : -9223372036854775808 ≤ n0 ∧ n0 ≤ 9223372036854775807) (h1 : -9223372036854775808 ≤ f ∧ f ≤ 9223372036854775807) (h2 : -9223372036854775808 ≤ m0 ∧ m0 ≤ 9223372036854775807) :
    Calls Try.prog 6 #[.int .i64 n0, .int .i64 f, .int .i64 m0] w fun e w' => e = .returned (.bool true) ∧ Below w.heap.size w w' := by
  have hn0 : 0 ≤ n0 % 8 ∧ n0 % 8 < 8 := ⟨Int.emod_nonneg _ (by omega), Int.emod_lt_of_pos _ (by omega)⟩
  have hm0 : 0 ≤ m0 % 60 ∧ m0 % 60 < 60 := ⟨Int.emod_nonneg _ (by omega), Int.emod_lt_of_pos _ (by omega)⟩
  obtain ⟨n, hn⟩ : ∃ n : Nat, (1 + n0 % 8) = (n : Int) := ⟨(1 + n0 % 8).toNat, by omega⟩
  obtain ⟨m, hm⟩ : ∃ m : Nat, m0 % 60 = (m : Int) := ⟨(m0 % 60).toNat, by omega⟩
  have hn8 : 1 ≤ n ∧ n ≤ 8 := by omega
  have hm60 : m < 60 := by omega
  obtain ⟨i0, hi, hz0, hz1, hz2⟩ := info_parts info3
  have HN := Lib.hid hn
  have HM := Lib.hid hm
  clear hn hm
  go_enter Try.func6, Try.ntmps6
  go_wp2_with fail
  refine (works_any _).mono ?_
  rintro e w1 ⟨rfl, hb0⟩
  go_wp2_with fail
  refine (bring_any n0 8 _ (by omega) (by omega)).mono ?_
  rintro e w1 ⟨rfl, rfl⟩
  have hmk := run_make_row' (P := Try.prog) 22 4 (.bool false) 1 Try.underlying22 info4 rfl .i64 .i64 n (by omega) (by omega)
  rw [← HN.out] at hmk
  go_wp2_with fail
  clear hmk
  simp only [HN.out]
  have r0 := Lib.hid (World.rowIs_made w1 (.bool false) n 4)
  have b0 := Lib.hid (show Below w.heap.size w (w1.alloc (.cells (madeCells #[.bool false] n) 4)) from hb0.alloc hb0.size _)
  have hsz := hb0.size
  clear hb0
  generalize w1.alloc (.cells (madeCells #[.bool false] n) 4) = W at *
  generalize w1.heap.size = g at *
  go_loopw [8] (fun i wr => ∃ k : Nat, k ≤ n ∧ i = .int .i64 k ∧ wr.rowIs g 4 n (fun j => .bool (decide (j < k))) ∧ Below w.heap.size w wr) (fun i _ => n - (intOf i).toNat)
  case atStart => exact ⟨0, by omega, rfl, by simpa using r0.out, b0.out⟩
  case round =>
    clear r0 b0
    obtain ⟨k, hk, rfl, r1, b1⟩ := hrel
    have R1 := Lib.hid r1
    have B1 := Lib.hid b1
    clear r1 b1
    by_cases hlt : k < n
    · have hcd := R1.out.cell hlt
      have hfz := R1.out.frozen k
      go_wp2_with fail
      go_roundw
      case rel => exact ⟨k + 1, by omega, by go_num, row_store R1.out, B1.out.setCell hsz _⟩
      case measure => simp [intOf]; omega
    · obtain rfl : k = n := by omega
      have S1 := Lib.hid (row_bools R1.out (by omega) (fun j hj => by simp [hj]))
      clear R1
      go_wp2_with fail
      obtain ⟨s, hs⟩ : ∃ s, s = nx k f := ⟨_, rfl⟩
      have hsl : s < k := by rw [hs]; exact nx_lt (by omega) f
      clear hk hlt
      generalize wr = W1 at S1 B1 ⊢
      go_loopw [9, 10, 11] (fun l x i wr => ∃ (j : Nat) (L : Int), j ≤ m ∧ i = .int .i64 j ∧ x = .int .i64 L ∧ nx k L = (s + j) % k ∧ wr.ownsRow W1.heap.size 3 1 l j ((cyc k s j).map encI) ∧ Below W1.heap.size W1 wr) (fun _ _ i _ => m - (intOf i).toNat)
      case atStart => exact ⟨0, f, by omega, rfl, rfl, by rw [← hs, Nat.add_zero, Nat.mod_eq_of_lt hsl], World.ownsRow_nil _ _ _ _, Below.refl _ _⟩
      case round =>
        obtain ⟨j, L, hj, rfl, rfl, hnx, hown, hb⟩ := hrel
        have HB := Lib.hid hb
        have HX := Lib.hid hnx
        have HO := Lib.hid hown
        clear hb hnx hown hs
        by_cases hlt : j < m
        · have hrl : (s + j) % k < k := Nat.mod_lt _ (by omega)
          have HX2 := Lib.hid (nx_mod (n := k) (s := s) (k := j) (by omega))
          have HC := Lib.hid (cyc_succ k s j)
          go_wp2_with fail
          refine (bring_any m0 60 _ (by omega) (by omega)).mono ?_
          rintro e w2 ⟨rfl, rfl⟩
          rw [HM.out]
          go_wp2_with fail
          refine (next_at (List.replicate k true) _ _ L k ((s + j) % k : Nat) true _ (S1.out.below HB.out) (by simp; omega) (by simp) (by rw [nextA_all (by omega), HX.out]) (pickB_all (by omega))).mono ?_
          rintro e w3 ⟨rfl, hb⟩
          replace HB := Lib.hid (on HB.out hb)
          have hown := owns_below HO.out hb
          clear hb HO
          rename_i wr0
          obtain ⟨r, hr⟩ : ∃ r, r = (s + j) % k := ⟨_, rfl⟩
          rw [← hr] at hrl HX2 HC ⊢
          clear hr HX
          have hsz3 := HB.out.size
          go_wp2_with (at_builtin; refine wpList_append_own _ rfl _ _ 27 rfl W1.heap.size 3 i0 (.int .i64 0) 1 8 Try.underlying27 hi hz0 hz1 hz2 rfl (by decide) _ _ _ rfl (hown.alloc _) ⟨w3.heap.size, 0, none⟩ 1 1 [encI r] rfl rfl (cell_one_new _ _ _) (by simp [Value.oneCell', encI]) (by unfold maxLen; omega) (by omega) (by simp; omega) ?_; intro v' w4 hown' hgrow _)
          replace HB := Lib.hid ((HB.out.alloc hsz3 _).grown hgrow (by simp; omega) (fun j ej => (hown.lt j ej).1))
          clear hgrow hown hsz3
          go_wp2_with fail
          go_roundw
          case rel => exact ⟨j + 1, r, by omega, by go_num, rfl, HX2.out, by rw [HC.out]; simpa using hown', HB.out⟩
          case measure => simp [intOf]; omega
        · obtain rfl : j = m := by omega
          obtain ⟨a', cap', rfl, hs, hf, -⟩ := isSl_of_owns (xs := cyc k s j) (by rw [cyc_len]; exact HO.out)
          have HS := Lib.hid hs
          clear hs hf HO HX
          have HF1 := Lib.hid (cyc_fair hn8 hsl j)
          have BW := Lib.hid (on B1.out HB.out)
          go_wp2_with fail
          refine (bring_any m0 60 _ (by omega) (by omega)).mono ?_
          rintro e w2 ⟨rfl, rfl⟩
          rw [HM.out, cyc_len]
          by_cases hjk : j < k
          · go_wp2_with fail
            refine (fair_at (cyc k s j) _ _ k k _ true _ HS.out (cyc_len _ _ _) HF1.out).mono ?_
            rintro e w2 ⟨rfl, rfl⟩
            go_wp2_with fail
            go_ret
            exact ⟨rfl, BW.out⟩
          · by_cases hk2 : k < 2
            · go_wp2_with fail
              refine (fair_at (cyc k s j) _ _ k k _ true _ HS.out (cyc_len _ _ _) HF1.out).mono ?_
              rintro e w2 ⟨rfl, rfl⟩
              go_wp2_with fail
              go_ret
              exact ⟨rfl, BW.out⟩
            · have HF2 := Lib.hid (cyc_unfair (n := k) (s := s) (m := j) (by omega) hsl (by omega))
              go_wp2_with fail
              refine (fair_at (cyc k s j) _ _ k k _ true _ HS.out (cyc_len _ _ _) HF1.out).mono ?_
              rintro e w2 ⟨rfl, rfl⟩
              go_wp2_with fail
              refine (fair_at (cyc k s j) _ _ k (k - 1) _ false _ HS.out (cyc_len _ _ _) HF2.out).mono ?_
              rintro e w2 ⟨rfl, rfl⟩
              go_wp2_with fail
              go_ret
              exact ⟨rfl, BW.out⟩
end Go.Proofs.Ytlndhdficackcaa
