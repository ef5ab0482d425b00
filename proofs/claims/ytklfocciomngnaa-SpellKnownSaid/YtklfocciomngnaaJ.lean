/- great; comparing; orders. -/
import Derived.Test.YtklfocciomngnaaI
import Derived.BigQuiet
namespace Go.Proofs.Ytklfocciomngnaa
open Go.RowKit Go.Lib

def greatL (s : ByteArray) : List UInt8 := encL ((rs s).map greatR)
set_option maxRecDepth 100000 in
set_option maxHeartbeats 6000000 in
theorem great_any (s : ByteArray) (w : World) (hs : s.size ≤ 35184372088831) : Calls Try.prog 23 #[.string s] w fun e w' => e = .returned (.string ⟨(greatL s).toArray⟩) ∧ Below w.heap.size w w' := by
  obtain ⟨i0, hi, hz0, hz1, hz2⟩ := info_parts info21
  have VRM := Lib.hid (map_vr (f := greatR) (fun _ h => greatR_vr h) s)
  have HGL := Lib.hid (show greatL s = encL ((rs s).map greatR) from rfl)
  go_enter Try.func23, Try.ntmps23
  go_wp2_with fail
  have I0 := Lib.hid (iter_it w s)
  have B0 := Lib.hid (show Below w.heap.size w (w.iter s 0) from (by repeat (first | exact Below.refl _ _ | assumption | refine Below.setCell ?_ (by first | omega | (simp; done) | (simp; omega)) _ | refine Below.drew ?_ | refine Below.alloc ?_ (by first | omega | (simp; done) | (simp; omega)) _ | refine Below.trans ?_ (Below.mono (by assumption) (by first | omega | (simp; done) | (simp; omega))))))
  go_loopw [3] (fun v wr => ∃ (pos : Nat) (done : List Int), wr.ownsRow w.heap.size 21 1 v done.length ((done.map greatR).map encR) ∧ rs s = done ++ runesL (s.data.toList.drop pos) ∧ done.length ≤ pos ∧ pos ≤ s.size ∧ It wr w.heap.size s pos ∧ Below w.heap.size w wr) (fun _ wr => s.size - wr.iterPos w.heap.size)
  case atStart => exact ⟨0, [], World.ownsRow_nil _ _ _ _, by simp [rs], by simp, by omega, I0.out, B0.out⟩
  case round =>
    clear I0 B0
    obtain ⟨pos, done, hO, hn, hdl, hps, hI, hB⟩ := hrel
    have hip := hI.pos
    by_cases hp : pos < s.size
    · have hnx : ∀ ty, (Instr.next (.pointer (some ⟨w.heap.size, 0, none⟩)) true ty).run Try.prog wr = _ := fun ty => run_next_any_at wr w.heap.size s pos ty hI hp
      have I2 := Lib.hid (hI.next (pos + (Utf8.decode s pos).2))
      have B2 := Lib.hid (below_iterAt hB (Nat.le_refl _) s (pos + (Utf8.decode s pos).2))
      have O2 := Lib.hid (owns_iter hO hI (pos + (Utf8.decode s pos).2))
      have hw1 := width_pos s pos hp
      have hw2 := width_le s pos hp
      have hbd := decode_bd s pos
      rw [runes_at hp] at hn
      obtain ⟨c, hc⟩ : ∃ c, (Utf8.decode s pos).1 = c := ⟨_, rfl⟩
      rw [hc] at hnx hn hbd
      have HN := Lib.hid hn
      clear hn hI hB hc hO
      have hpp : pos < pos + (Utf8.decode s pos).2 := by omega
      generalize pos + (Utf8.decode s pos).2 = pos' at *
      generalize wr.iterAt w.heap.size s pos' = W2 at *
      have hsz := B2.out.size
      by_cases hc : (c : Int) < 97
      · have HG := Lib.hid (show greatR (c : Int) = (c : Int) from by unfold greatR; first | rw [if_pos (by omega)] | rw [if_neg (by omega)])
        go_wp2_with (at_builtin; refine wpList_append_own _ rfl _ _ 36 rfl w.heap.size 21 i0 _ 1 4 Try.underlying36 hi hz0 hz1 hz2 rfl (by omega) _ _ _ rfl (O2.out.alloc _) ⟨W2.heap.size, 0, none⟩ 1 1 [encR ((c : Int))] rfl rfl (cell_one_new _ _ _) (by simp [Value.oneCell', encR]) (by unfold maxLen; omega) (by omega) (by simp; omega) ?_; intro v' w1 hown' hgrow _; have I4 := Lib.hid (I2.out.grown hgrow O2.out); have B4 := Lib.hid ((B2.out.alloc hsz _).grown hgrow (by simp; omega) (fun g e => (O2.out.lt g e).1)); have O4 := Lib.hid hown'; clear hown' hgrow)
        go_roundw
        case rel => exact ⟨pos', done ++ [(c : Int)], by simpa [HG.out] using O4.out, by rw [HN.out]; simp, by simp; omega, by omega, I4.out, B4.out⟩
        case measure => rw [I4.out.pos, hip]; omega
      by_cases hc : (c : Int) ≤ 122
      · have HG := Lib.hid (show greatR (c : Int) = (c : Int) - 32 from by unfold greatR; first | rw [if_pos (by omega)] | rw [if_neg (by omega)])
        go_wp2_with (at_builtin; refine wpList_append_own _ rfl _ _ 36 rfl w.heap.size 21 i0 _ 1 4 Try.underlying36 hi hz0 hz1 hz2 rfl (by omega) _ _ _ rfl (O2.out.alloc _) ⟨W2.heap.size, 0, none⟩ 1 1 [encR ((c : Int) - 32)] rfl rfl (cell_one_new _ _ _) (by simp [Value.oneCell', encR]) (by unfold maxLen; omega) (by omega) (by simp; omega) ?_; intro v' w1 hown' hgrow _; have I4 := Lib.hid (I2.out.grown hgrow O2.out); have B4 := Lib.hid ((B2.out.alloc hsz _).grown hgrow (by simp; omega) (fun g e => (O2.out.lt g e).1)); have O4 := Lib.hid hown'; clear hown' hgrow)
        go_roundw
        case rel => exact ⟨pos', done ++ [(c : Int)], by simpa [HG.out] using O4.out, by rw [HN.out]; simp, by simp; omega, by omega, I4.out, B4.out⟩
        case measure => rw [I4.out.pos, hip]; omega
      by_cases hc : (c : Int) < 224
      · have HG := Lib.hid (show greatR (c : Int) = (c : Int) from by unfold greatR; first | rw [if_pos (by omega)] | rw [if_neg (by omega)])
        go_wp2_with (at_builtin; refine wpList_append_own _ rfl _ _ 36 rfl w.heap.size 21 i0 _ 1 4 Try.underlying36 hi hz0 hz1 hz2 rfl (by omega) _ _ _ rfl (O2.out.alloc _) ⟨W2.heap.size, 0, none⟩ 1 1 [encR ((c : Int))] rfl rfl (cell_one_new _ _ _) (by simp [Value.oneCell', encR]) (by unfold maxLen; omega) (by omega) (by simp; omega) ?_; intro v' w1 hown' hgrow _; have I4 := Lib.hid (I2.out.grown hgrow O2.out); have B4 := Lib.hid ((B2.out.alloc hsz _).grown hgrow (by simp; omega) (fun g e => (O2.out.lt g e).1)); have O4 := Lib.hid hown'; clear hown' hgrow)
        go_roundw
        case rel => exact ⟨pos', done ++ [(c : Int)], by simpa [HG.out] using O4.out, by rw [HN.out]; simp, by simp; omega, by omega, I4.out, B4.out⟩
        case measure => rw [I4.out.pos, hip]; omega
      by_cases hc : (c : Int) ≤ 246
      · have HG := Lib.hid (show greatR (c : Int) = (c : Int) - 32 from by unfold greatR; first | rw [if_pos (by omega)] | rw [if_neg (by omega)])
        go_wp2_with (at_builtin; refine wpList_append_own _ rfl _ _ 36 rfl w.heap.size 21 i0 _ 1 4 Try.underlying36 hi hz0 hz1 hz2 rfl (by omega) _ _ _ rfl (O2.out.alloc _) ⟨W2.heap.size, 0, none⟩ 1 1 [encR ((c : Int) - 32)] rfl rfl (cell_one_new _ _ _) (by simp [Value.oneCell', encR]) (by unfold maxLen; omega) (by omega) (by simp; omega) ?_; intro v' w1 hown' hgrow _; have I4 := Lib.hid (I2.out.grown hgrow O2.out); have B4 := Lib.hid ((B2.out.alloc hsz _).grown hgrow (by simp; omega) (fun g e => (O2.out.lt g e).1)); have O4 := Lib.hid hown'; clear hown' hgrow)
        go_roundw
        case rel => exact ⟨pos', done ++ [(c : Int)], by simpa [HG.out] using O4.out, by rw [HN.out]; simp, by simp; omega, by omega, I4.out, B4.out⟩
        case measure => rw [I4.out.pos, hip]; omega
      by_cases hc : (c : Int) < 945
      · have HG := Lib.hid (show greatR (c : Int) = (c : Int) from by unfold greatR; first | rw [if_pos (by omega)] | rw [if_neg (by omega)])
        go_wp2_with (at_builtin; refine wpList_append_own _ rfl _ _ 36 rfl w.heap.size 21 i0 _ 1 4 Try.underlying36 hi hz0 hz1 hz2 rfl (by omega) _ _ _ rfl (O2.out.alloc _) ⟨W2.heap.size, 0, none⟩ 1 1 [encR ((c : Int))] rfl rfl (cell_one_new _ _ _) (by simp [Value.oneCell', encR]) (by unfold maxLen; omega) (by omega) (by simp; omega) ?_; intro v' w1 hown' hgrow _; have I4 := Lib.hid (I2.out.grown hgrow O2.out); have B4 := Lib.hid ((B2.out.alloc hsz _).grown hgrow (by simp; omega) (fun g e => (O2.out.lt g e).1)); have O4 := Lib.hid hown'; clear hown' hgrow)
        go_roundw
        case rel => exact ⟨pos', done ++ [(c : Int)], by simpa [HG.out] using O4.out, by rw [HN.out]; simp, by simp; omega, by omega, I4.out, B4.out⟩
        case measure => rw [I4.out.pos, hip]; omega
      by_cases hc : (c : Int) ≤ 961
      · have HG := Lib.hid (show greatR (c : Int) = (c : Int) - 32 from by unfold greatR; first | rw [if_pos (by omega)] | rw [if_neg (by omega)])
        go_wp2_with (at_builtin; refine wpList_append_own _ rfl _ _ 36 rfl w.heap.size 21 i0 _ 1 4 Try.underlying36 hi hz0 hz1 hz2 rfl (by omega) _ _ _ rfl (O2.out.alloc _) ⟨W2.heap.size, 0, none⟩ 1 1 [encR ((c : Int) - 32)] rfl rfl (cell_one_new _ _ _) (by simp [Value.oneCell', encR]) (by unfold maxLen; omega) (by omega) (by simp; omega) ?_; intro v' w1 hown' hgrow _; have I4 := Lib.hid (I2.out.grown hgrow O2.out); have B4 := Lib.hid ((B2.out.alloc hsz _).grown hgrow (by simp; omega) (fun g e => (O2.out.lt g e).1)); have O4 := Lib.hid hown'; clear hown' hgrow)
        go_roundw
        case rel => exact ⟨pos', done ++ [(c : Int)], by simpa [HG.out] using O4.out, by rw [HN.out]; simp, by simp; omega, by omega, I4.out, B4.out⟩
        case measure => rw [I4.out.pos, hip]; omega
      have HG := Lib.hid (show greatR (c : Int) = (c : Int) from by unfold greatR; rw [if_neg (by omega)])
      go_wp2_with (at_builtin; refine wpList_append_own _ rfl _ _ 36 rfl w.heap.size 21 i0 _ 1 4 Try.underlying36 hi hz0 hz1 hz2 rfl (by omega) _ _ _ rfl (O2.out.alloc _) ⟨W2.heap.size, 0, none⟩ 1 1 [encR ((c : Int))] rfl rfl (cell_one_new _ _ _) (by simp [Value.oneCell', encR]) (by unfold maxLen; omega) (by omega) (by simp; omega) ?_; intro v' w1 hown' hgrow _; have I4 := Lib.hid (I2.out.grown hgrow O2.out); have B4 := Lib.hid ((B2.out.alloc hsz _).grown hgrow (by simp; omega) (fun g e => (O2.out.lt g e).1)); have O4 := Lib.hid hown'; clear hown' hgrow)
      go_roundw
      case rel => exact ⟨pos', done ++ [(c : Int)], by simpa [HG.out] using O4.out, by rw [HN.out]; simp, by simp; omega, by omega, I4.out, B4.out⟩
      case measure => rw [I4.out.pos, hip]; omega
    · have hnx : ∀ ty, (Instr.next (.pointer (some ⟨w.heap.size, 0, none⟩)) true ty).run Try.prog wr = _ := fun ty => run_next_end_at wr w.heap.size s pos ty hI hp
      rw [runes_end hp, List.append_nil] at hn
      have HN := Lib.hid hn
      have BB := Lib.hid hB
      rw [hn] at VRM HGL
      obtain ⟨a, cap, rfl, h1, h2⟩ := owns_form hO
      unfold maxLen at h2
      have hcv := conv_runes hO (by simp) VRM.out done.length (Nat.le_refl _) cap
      rw [List.take_of_length_le (by simp), ← HGL.out] at hcv
      clear hn hI hB hO
      go_wp2_with fail
      go_ret
      exact ⟨rfl, BB.out⟩
theorem conv_rs (s : ByteArray) : ∀ (bound i : Nat) (acc : Array Value), s.size ≤ i + bound → (Conv.runesFrom s bound i acc).toList = acc.toList ++ (runesL (s.data.toList.drop i)).map encR
  | 0, i, acc, h => by rw [Conv.runesFrom, runes_end (by omega)]; simp
  | bound + 1, i, acc, h => by
    unfold Conv.runesFrom
    by_cases hi : i < s.size
    · rw [if_pos hi]
      have := width_pos s i hi
      simp only []
      rw [conv_rs s bound (i + (Utf8.decode s i).2) _ (by omega), runes_at hi]
      simp [encR]
    · rw [if_neg hi, runes_end hi]; simp
theorem conv_rs0 (s : ByteArray) : (Conv.runesFrom s s.size 0 #[]).toList = (rs s).map encR := by
  rw [conv_rs s s.size 0 #[] (by omega)]; simp [rs]
theorem run_runes (s : ByteArray) (xs : List Int) (hx : rs s = xs) (w : World) (hl : xs.length ≤ 35184372088831) : ∃ a cap w', (convert 9 36 (.string s)).run Try.prog w = .ok (.slice a xs.length cap) w' ∧ IsSl encR w' a xs ∧ cap ≤ maxLen ∧ Below w.heap.size w w' := by
  subst hx
  have h0 := conv_rs0 s
  have hz : (Conv.runesFrom s s.size 0 #[]).size = (rs s).length := by rw [← Array.length_toList, h0, List.length_map]
  have h := run_runes_of_string (P := Try.prog) w 9 36 21 s Try.underlying9 Try.underlying36 Try.underlying21 (by omega)
  rw [hz] at h
  refine ⟨_, _, _, h, ⟨by omega, fun _ => ⟨w.heap.size, 0, rfl, fun i x hx => ?_⟩⟩, grownCap_le_maxLen _ _ _ _ (by unfold maxLen; omega), ?_⟩
  · rw [World.cell?, show (w.drew.alloc _).heap[w.heap.size]? = _ from heap_alloc_new w.drew _]
    have hi := (List.getElem?_eq_some_iff.1 hx).1
    have : (Conv.runesFrom s s.size 0 #[])[i]? = some (encR x) := by rw [← Array.getElem?_toList, h0, List.getElem?_map, hx]; rfl
    simp only [Nat.zero_add]
    rw [Array.getElem?_append_left (by omega)]
    simpa using this
  · exact (Below.refl _ _).drew.alloc (Nat.le_refl _) _
/-- comparing two runes -/
def cmpZ (a b : Int) : Int := if a < b then -1 else if b < a then 1 else 0
def cmpL : List Int → List Int → Int
  | [], [] => 0
  | [], _ :: _ => -1
  | _ :: _, [] => 1
  | x :: xs, y :: ys => if x < y then -1 else if y < x then 1 else cmpL xs ys
theorem cmpL_less : ∀ xs ys : List Int, decide (cmpL xs ys < 0) = lessR xs ys
  | [], [] => by simp [cmpL, lessR]
  | [], _ :: _ => by simp [cmpL, lessR]
  | _ :: _, [] => by simp [cmpL, lessR]
  | x :: xs, y :: ys => by
    unfold cmpL lessR
    by_cases h1 : x < y
    · rw [if_pos h1, if_neg (by omega), decide_eq_true h1]; rfl
    · rw [if_neg h1]
      by_cases h2 : y < x
      · rw [if_pos h2, if_neg (by omega), decide_eq_false h1]; rfl
      · rw [if_neg h2, if_pos (by omega)]; exact cmpL_less xs ys
theorem cmpL_bd : ∀ xs ys : List Int, -1 ≤ cmpL xs ys ∧ cmpL xs ys ≤ 1
  | [], [] => by simp [cmpL]
  | [], _ :: _ => by simp [cmpL]
  | _ :: _, [] => by simp [cmpL]
  | x :: xs, y :: ys => by
    unfold cmpL
    have := cmpL_bd xs ys
    split
    · omega
    · split <;> omega
theorem cmpL_at {xs ys : List Int} {i : Nat} {x y : Int} (hx : xs[i]? = some x) (hy : ys[i]? = some y) : cmpL (xs.drop i) (ys.drop i) = if x < y then -1 else if y < x then 1 else cmpL (xs.drop (i + 1)) (ys.drop (i + 1)) := by
  obtain ⟨h1, rfl⟩ := List.getElem?_eq_some_iff.1 hx
  obtain ⟨h2, rfl⟩ := List.getElem?_eq_some_iff.1 hy
  rw [List.drop_eq_getElem_cons h1, List.drop_eq_getElem_cons h2]; rfl
theorem cmpL_r {xs ys : List Int} {i : Nat} (h1 : i < xs.length) (h2 : ¬ i < ys.length) : cmpL (xs.drop i) (ys.drop i) = 1 := by
  rw [List.drop_eq_getElem_cons h1, List.drop_of_length_le (by omega : ys.length ≤ i)]; rfl
theorem cmpL_l {xs ys : List Int} {i : Nat} (h1 : ¬ i < xs.length) (h2 : i < ys.length) : cmpL (xs.drop i) (ys.drop i) = -1 := by
  rw [List.drop_eq_getElem_cons h2, List.drop_of_length_le (by omega : xs.length ≤ i)]; rfl
theorem cmpL_e {xs ys : List Int} {i : Nat} (h1 : ¬ i < xs.length) (h2 : ¬ i < ys.length) : cmpL (xs.drop i) (ys.drop i) = 0 := by
  rw [List.drop_of_length_le (by omega : xs.length ≤ i), List.drop_of_length_le (by omega : ys.length ≤ i)]; rfl
theorem lessR_at {xs ys : List Int} {i : Nat} {x y : Int} (hx : xs[i]? = some x) (hy : ys[i]? = some y) : lessR (xs.drop i) (ys.drop i) = if x = y then lessR (xs.drop (i + 1)) (ys.drop (i + 1)) else decide (x < y) := by
  obtain ⟨h1, rfl⟩ := List.getElem?_eq_some_iff.1 hx
  obtain ⟨h2, rfl⟩ := List.getElem?_eq_some_iff.1 hy
  rw [List.drop_eq_getElem_cons h1, List.drop_eq_getElem_cons h2]; rfl
set_option maxRecDepth 100000 in
set_option maxHeartbeats 400000 in
theorem nan_any (a : Int) (w : World) : Calls Try.prog 40 #[.int .i32 a] w fun e w' => e = .returned (.bool false) ∧ w = w' := by
  go_enter Try.func40, Try.ntmps40
  go_wp2_with fail
  go_ret
  exact ⟨retB (by simp), rfl⟩
set_option maxRecDepth 100000 in
set_option maxHeartbeats 400000 in
theorem cmp_any (a b : Int) (w : World) : Calls Try.prog 37 #[.int .i32 a, .int .i32 b] w fun e w' => e = .returned (.int .i64 (cmpZ a b)) ∧ w = w' := by
  go_enter Try.func37, Try.ntmps37
  go_wp2_with fail
  refine (nan_any a w).mono ?_
  rintro e w1 ⟨rfl, rfl⟩
  go_wp2_with fail
  refine (nan_any b w).mono ?_
  rintro e w1 ⟨rfl, rfl⟩
  by_cases h : a < b
  · have HC := Lib.hid (show cmpZ a b = -1 from by unfold cmpZ; rw [if_pos h])
    go_wp2_with fail
    go_ret
    exact ⟨ret1 HC.out.symm, rfl⟩
  · by_cases h2 : b < a
    · have HC := Lib.hid (show cmpZ a b = 1 from by unfold cmpZ; rw [if_neg h, if_pos h2])
      go_wp2_with fail
      go_ret
      exact ⟨ret1 HC.out.symm, rfl⟩
    · have HC := Lib.hid (show cmpZ a b = 0 from by unfold cmpZ; rw [if_neg h, if_neg h2])
      go_wp2_with fail
      go_ret
      exact ⟨ret1 HC.out.symm, rfl⟩
end Go.Proofs.Ytklfocciomngnaa
