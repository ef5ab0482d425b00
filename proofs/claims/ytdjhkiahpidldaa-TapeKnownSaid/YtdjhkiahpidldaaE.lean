/- Small helpers of tape's laws: EqInts, EqBytes, CopyBytes. -/
import Derived.Test.YtdjhkiahpidldaaA
import Derived.Laws.BytesArg
import Derived.Laws.AppendOwnNone
import Derived.Laws.Strings
import Derived.Laws.AppendOwn
namespace Go.Proofs.Ytdjhkiahpidldaa
open Go.RowKit

set_option maxRecDepth 100000 in
set_option maxHeartbeats 400000 in
theorem eqints_any (xs ys : List Int) (a c : Option Addr) (ka kc : Nat) (w : World) (hx : IsSl encI w a xs) (hy : IsSl encI w c ys) :
    Calls Try.prog 22 #[.slice a xs.length ka, .slice c ys.length kc] w fun e w' => e = .returned (.bool (decide (xs = ys))) ∧ Below w.heap.size w w' := by
  have HX := Lib.hid hx
  have HY := Lib.hid hy
  have hlx := hx.len
  have hly := hy.len
  clear hx hy
  by_cases hl : xs.length = ys.length
  · have hl1 : ((xs.length : Int) != (ys.length : Int)) = false := by simp; omega
    have hll : xs.length ≤ ys.length := by omega
    have HL := Lib.hid hl
    clear hl
    go_enter Try.func22, Try.ntmps22
    go_wp2_with fail
    go_loopw [5] (fun i wr => ∃ k : Nat, k ≤ xs.length ∧ i = .int .i64 k ∧ (∀ j, j < k → xs[j]? = ys[j]?) ∧ Below w.heap.size w wr) (fun i _ => xs.length - (intOf i).toNat)
    case atStart => exact ⟨0, Nat.zero_le _, rfl, fun j hj => by omega, Below.refl _ _⟩
    case round =>
      obtain ⟨k, hk, rfl, hE, hb⟩ := hrel
      have HE := Lib.hid hE
      have HB := Lib.hid hb
      have SX := HX.out.below hb
      have SY := HY.out.below hb
      clear hE hb
      by_cases hlt : k < xs.length
      · obtain ⟨b1, o1, x, rfl, hxk, c1⟩ := SX.at hlt
        obtain ⟨b2, o2, y, rfl, hyk, c2⟩ := SY.at (show k < ys.length by omega)
        have XK := Lib.hid hxk
        have YK := Lib.hid hyk
        have h0 : (0 : Int) ≤ (k : Int) := by omega
        have h1 : (k : Int) < (xs.length : Int) := by omega
        have h2 : (k : Int) < (ys.length : Int) := by omega
        clear SX SY hxk hyk
        by_cases hxy : x = y
        · obtain rfl := hxy
          go_wp2_with fail
          go_quiet (fail)
          go_wp2_with fail
          go_roundw
          case rel => exact ⟨k + 1, by omega, by go_num, fun j hj => (by
            by_cases e : j = k
            · rw [e, XK.out, YK.out]
            · exact HE.out j (by omega)), below_drewN HB.out _⟩
          case measure => simp [intOf]; omega
        · have hne : (x != y) = true := by simpa using hxy
          have hf : decide (xs = ys) = false := by
            rw [decide_eq_false_iff_not]; intro e; apply hxy
            have h3 := XK.out; rw [e, YK.out] at h3; exact (Option.some.inj h3).symm
          have HF := Lib.hid hf
          clear hf hxy
          go_wp2_with fail
          go_quiet (fail)
          go_wp2_with fail
          go_ret
          exact ⟨retB HF.out.symm, below_drewN HB.out _⟩
      · obtain rfl : k = xs.length := by omega
        have hf : decide (xs = ys) = true := by
          rw [decide_eq_true_iff]
          refine List.ext_getElem? fun j => ?_
          by_cases h : j < xs.length
          · exact HE.out j h
          · have := HL.out
            rw [List.getElem?_eq_none (by omega), List.getElem?_eq_none (by omega)]
        have HF := Lib.hid hf
        clear hf SX SY
        go_wp2_with fail
        go_ret
        exact ⟨retB HF.out.symm, HB.out⟩
  · have hl1 : ((xs.length : Int) != (ys.length : Int)) = true := by simp; omega
    have hf : decide (xs = ys) = false := by rw [decide_eq_false_iff_not]; intro e; rw [e] at hl; exact hl rfl
    have HF := Lib.hid hf
    clear hf hl
    go_enter Try.func22, Try.ntmps22
    go_wp2_with fail
    go_ret
    exact ⟨retB HF.out.symm, Below.refl _ _⟩

theorem conv_sl {w : World} {a : Option Addr} {xs : List Int} (cap : Nat) (h : IsSl encU w a xs) : (convert 22 9 (.slice a xs.length cap)).run Try.prog w = .ok (.string (strOfNums xs)) w := by
  by_cases he : xs = []
  · subst he
    cases a with
    | none => exact run_convert_bytes_nil w 22 5 Try.underlying22 Try.underlying5 _ _ 9 Try.underlying9
    | some x =>
      rw [run_convert_bytes_string w 22 9 5 _ _ cap Try.underlying22 Try.underlying5 Try.underlying9]
      have := run_bytesToString (P := Try.prog) w x 0 cap [] (by simpa using run_loadCells_list (P := Try.prog) w x [] (fun j v hj => by simp at hj))
      simp only [List.foldl_nil] at this
      exact this
  · obtain ⟨b, off, rfl, hc⟩ := h.2 he
    exact run_convert_bytes_arg w 22 5 Try.underlying22 Try.underlying5 b off xs.length cap xs rfl (fun i hi => by
      rw [hc i _ (List.getElem?_eq_getElem hi)]; simp [encU, List.getD, List.getElem?_eq_getElem hi]) 9 Try.underlying9
theorem strOf_inj : ∀ {xs ys : List Int}, IsBytes xs → IsBytes ys → (strOfNums xs).data.toList = (strOfNums ys).data.toList → xs = ys
  | [], [], _, _, _ => rfl
  | [], y :: ys, _, _, h => by simp [strOfNums_data] at h
  | x :: xs, [], _, _, h => by simp [strOfNums_data] at h
  | x :: xs, y :: ys, hx, hy, h => by
    simp only [strOfNums_data, List.map_cons, List.cons.injEq] at h
    have h1 := hx x (by simp)
    have h2 := hy y (by simp)
    have e1 : x = y := by
      have := congrArg UInt8.toNat h.1
      simp at this; omega
    have e2 := strOf_inj (xs := xs) (ys := ys) (fun z hz => hx z (by simp [hz])) (fun z hz => hy z (by simp [hz])) (by simpa [strOfNums_data] using h.2)
    rw [e1, e2]
set_option maxHeartbeats 400000 in
theorem eqbytes_any (xs ys : List Int) (a c : Option Addr) (ka kc : Nat) (w : World) (bx : IsBytes xs) (bY : IsBytes ys) (hx : IsSl encU w a xs) (hy : IsSl encU w c ys) :
    Calls Try.prog 13 #[.slice a xs.length ka, .slice c ys.length kc] w fun e w' => e = .returned (.bool (decide (xs = ys))) ∧ w = w' := by
  have k1 := conv_sl ka hx
  have k2 := conv_sl kc hy
  have hf : decide (xs = ys) = ((strOfNums xs).data.toList == (strOfNums ys).data.toList) := by
    rw [Bool.eq_iff_iff]; simp only [decide_eq_true_eq, beq_iff_eq]
    exact ⟨fun e => by rw [e], fun e => strOf_inj bx bY e⟩
  have HF := Lib.hid hf
  clear hf hx hy
  generalize strOfNums xs = sx at *
  generalize strOfNums ys = sy at *
  go_enter Try.func13, Try.ntmps13
  go_wp2_with fail
  go_ret
  refine ⟨?_, rfl⟩
  rw [HF.out, ← ByteArray.toList_eq, ← ByteArray.toList_eq]
  rfl

theorem info5 : (Try.prog.info? 5).map (fun i => (i.zero, i.size, i.bytes)) = some (some (.int .u8 0), 1, 1) := by kernel_rfl
set_option maxHeartbeats 400000 in
theorem copybytes_any (xs : List Int) (a : Option Addr) (ka : Nat) (w : World) (hx : IsSl encU w a xs) (hnil : a = none → ka = 0 ∧ xs = []) (hsz : xs.length ≤ 140737488355328) :
    Calls Try.prog 9 #[.slice a xs.length ka] w fun e w' => ∃ v, e = .returned v ∧ w'.ownsRow w.heap.size 5 1 v xs.length (xs.map encU) ∧ Below w.heap.size w w' := by
  obtain ⟨i0, hi, hz0, hz1, hz2⟩ := info_parts info5
  have HX := Lib.hid hx
  cases a with
  | none =>
    obtain ⟨rfl, rfl⟩ := hnil rfl
    clear hnil hx
    go_enter Try.func9, Try.ntmps9
    go_wp2_with (at_builtin; refine wpList_append_own_none rfl _ _ 22 rfl w.heap.size 5 i0 1 Try.underlying22 hi _ 0 [] rfl (World.ownsRow_nil _ _ _ _) rfl ?_)
    go_ret
    exact ⟨_, rfl, World.ownsRow_nil _ _ _ _, Below.refl _ _⟩
  | some ad =>
    have hc : ∀ j u, (xs.map encU)[j]? = some u → w.cell? (ad.add j) = some u := by
      intro j u hj
      rw [List.getElem?_map] at hj
      cases hxj : xs[j]? with
      | none => rw [hxj] at hj; cases hj
      | some x =>
        rw [hxj] at hj
        obtain ⟨b, off, he, hcell⟩ := hx.2 (by intro e; rw [e] at hxj; simp at hxj)
        cases he
        have hplain : (⟨b, off, none⟩ : Addr).add j = ⟨b, off + j, none⟩ := by unfold Addr.add; split <;> simp_all
        rw [hplain, hcell j x hxj]; exact hj
    have HC := Lib.hid hc
    clear hnil hx hc
    go_enter Try.func9, Try.ntmps9
    go_wp2_with (at_builtin; refine wpList_append_own _ rfl _ _ 22 rfl w.heap.size 5 i0 _ 1 1 Try.underlying22 hi hz0 hz1 hz2 rfl (by decide) _ 0 [] rfl (World.ownsRow_nil _ _ _ _) ad xs.length ka (xs.map encU) rfl (by simp) HC.out (by simp [Value.oneCell', encU]) (by unfold maxLen; omega) (by omega) (Nat.le_refl _) ?_; intro v' w1 hown' hgrow _)
    go_ret
    exact ⟨_, rfl, by simpa using hown', (Below.refl _ _).grown hgrow (Nat.le_refl _) (fun g e => by cases e)⟩
end Go.Proofs.Ytdjhkiahpidldaa
