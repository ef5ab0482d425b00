/- The reference's runes, folds, cuts; great. -/
import Derived.Test.YtklfocciomngnaaF
import Derived.Laws.Cover4
import Derived.Laws.IdiomStrings
import Derived.Laws.AppendOwn
import Derived.Maps.AppendAt
import Derived.WalkSpells
namespace Go.Proofs.Ytklfocciomngnaa
open Go.RowKit Go.Lib

abbrev encR (r : Int) : Value := .int .i32 r
theorem info21 : (Try.prog.info? 21).map (fun i => (i.zero, i.size, i.bytes)) = some (some (.int .i32 0), 1, 4) := by kernel_rfl
theorem owns_iter {w : World} {base n K pos : Nat} {e : TypeId} {v : Value} {xs : List Value} {s : ByteArray} (h : w.ownsRow base e 1 v n xs) (hI : It w K s pos) (pos' : Nat) : (w.iterAt K s pos').ownsRow base e 1 v n xs := by
  refine ⟨h.1, h.2.elim Or.inl fun hx => Or.inr ?_⟩
  revert hx
  rintro ⟨g, cap, cur, hv, hb, hg, r⟩
  refine ⟨g, cap, cur, hv, hb, (iterAt_other w K g s pos' fun e => ?_).trans hg, r⟩
  subst e
  unfold It at hI
  rw [hI] at hg
  cases hg
theorem It.grown {w w' : World} {K pos base n : Nat} {s : ByteArray} {e : TypeId} {v : Value} {xs : List Value} {o : Obj} (h : It w K s pos) (hg : (w.alloc o).grownBy w' v.ownBlock) (ho : w.ownsRow base e 1 v n xs) : It w' K s pos := by
  have hl := h.lt
  refine (hg.block K (by simp; omega) fun e' => ?_).trans ((Below.heap_alloc w o K hl).trans h)
  rcases ho.2 with ⟨rfl, _⟩ | ⟨g, cap, cur, rfl, _, hh, _⟩
  · simp [Value.ownBlock] at e'
  · obtain rfl : K = g := by simpa [Value.ownBlock] using e'
    unfold It at h
    rw [h] at hh
    cases hh
set_option maxRecDepth 100000 in
set_option maxHeartbeats 1000000 in
theorem rsmall_any (r : Int) (w : World) : Calls Try.prog 28 #[.int .i32 r] w fun e w' => e = .returned (.bool (smallB r)) ∧ w = w' := by
  by_cases hc : r < 97
  · have HS := Lib.hid (show smallB r = false from by first | (rw [smallB_iff]; omega) | (rw [Bool.eq_false_iff, ne_eq, smallB_iff]; omega))
    first
      | (obtain rfl := hc
         go_enter Try.func28, Try.ntmps28
         go_wp2_with fail
         go_ret
         exact ⟨retB (by rw [HS.out]), rfl⟩)
      | (have n1 : (r != 247) = true := by simp; omega
         have n2 : (r != 962) = true := by simp; omega
         go_enter Try.func28, Try.ntmps28
         go_wp2_with fail
         go_ret
         exact ⟨retB (by rw [HS.out]), rfl⟩)
  by_cases hc : r ≤ 122
  · have HS := Lib.hid (show smallB r = true from by first | (rw [smallB_iff]; omega) | (rw [Bool.eq_false_iff, ne_eq, smallB_iff]; omega))
    first
      | (obtain rfl := hc
         go_enter Try.func28, Try.ntmps28
         go_wp2_with fail
         go_ret
         exact ⟨retB (by rw [HS.out]), rfl⟩)
      | (have n1 : (r != 247) = true := by simp; omega
         have n2 : (r != 962) = true := by simp; omega
         go_enter Try.func28, Try.ntmps28
         go_wp2_with fail
         go_ret
         exact ⟨retB (by rw [HS.out]), rfl⟩)
  by_cases hc : r < 224
  · have HS := Lib.hid (show smallB r = false from by first | (rw [smallB_iff]; omega) | (rw [Bool.eq_false_iff, ne_eq, smallB_iff]; omega))
    first
      | (obtain rfl := hc
         go_enter Try.func28, Try.ntmps28
         go_wp2_with fail
         go_ret
         exact ⟨retB (by rw [HS.out]), rfl⟩)
      | (have n1 : (r != 247) = true := by simp; omega
         have n2 : (r != 962) = true := by simp; omega
         go_enter Try.func28, Try.ntmps28
         go_wp2_with fail
         go_ret
         exact ⟨retB (by rw [HS.out]), rfl⟩)
  by_cases hc : r < 247
  · have HS := Lib.hid (show smallB r = true from by first | (rw [smallB_iff]; omega) | (rw [Bool.eq_false_iff, ne_eq, smallB_iff]; omega))
    first
      | (obtain rfl := hc
         go_enter Try.func28, Try.ntmps28
         go_wp2_with fail
         go_ret
         exact ⟨retB (by rw [HS.out]), rfl⟩)
      | (have n1 : (r != 247) = true := by simp; omega
         have n2 : (r != 962) = true := by simp; omega
         go_enter Try.func28, Try.ntmps28
         go_wp2_with fail
         go_ret
         exact ⟨retB (by rw [HS.out]), rfl⟩)
  by_cases hc : r = 247
  · have HS := Lib.hid (show smallB r = false from by first | (rw [smallB_iff]; omega) | (rw [Bool.eq_false_iff, ne_eq, smallB_iff]; omega))
    first
      | (obtain rfl := hc
         go_enter Try.func28, Try.ntmps28
         go_wp2_with fail
         go_ret
         exact ⟨retB (by rw [HS.out]), rfl⟩)
      | (have n1 : (r != 247) = true := by simp; omega
         have n2 : (r != 962) = true := by simp; omega
         go_enter Try.func28, Try.ntmps28
         go_wp2_with fail
         go_ret
         exact ⟨retB (by rw [HS.out]), rfl⟩)
  by_cases hc : r ≤ 254
  · have HS := Lib.hid (show smallB r = true from by first | (rw [smallB_iff]; omega) | (rw [Bool.eq_false_iff, ne_eq, smallB_iff]; omega))
    first
      | (obtain rfl := hc
         go_enter Try.func28, Try.ntmps28
         go_wp2_with fail
         go_ret
         exact ⟨retB (by rw [HS.out]), rfl⟩)
      | (have n1 : (r != 247) = true := by simp; omega
         have n2 : (r != 962) = true := by simp; omega
         go_enter Try.func28, Try.ntmps28
         go_wp2_with fail
         go_ret
         exact ⟨retB (by rw [HS.out]), rfl⟩)
  by_cases hc : r < 945
  · have HS := Lib.hid (show smallB r = false from by first | (rw [smallB_iff]; omega) | (rw [Bool.eq_false_iff, ne_eq, smallB_iff]; omega))
    first
      | (obtain rfl := hc
         go_enter Try.func28, Try.ntmps28
         go_wp2_with fail
         go_ret
         exact ⟨retB (by rw [HS.out]), rfl⟩)
      | (have n1 : (r != 247) = true := by simp; omega
         have n2 : (r != 962) = true := by simp; omega
         go_enter Try.func28, Try.ntmps28
         go_wp2_with fail
         go_ret
         exact ⟨retB (by rw [HS.out]), rfl⟩)
  by_cases hc : r < 962
  · have HS := Lib.hid (show smallB r = true from by first | (rw [smallB_iff]; omega) | (rw [Bool.eq_false_iff, ne_eq, smallB_iff]; omega))
    first
      | (obtain rfl := hc
         go_enter Try.func28, Try.ntmps28
         go_wp2_with fail
         go_ret
         exact ⟨retB (by rw [HS.out]), rfl⟩)
      | (have n1 : (r != 247) = true := by simp; omega
         have n2 : (r != 962) = true := by simp; omega
         go_enter Try.func28, Try.ntmps28
         go_wp2_with fail
         go_ret
         exact ⟨retB (by rw [HS.out]), rfl⟩)
  by_cases hc : r = 962
  · have HS := Lib.hid (show smallB r = false from by first | (rw [smallB_iff]; omega) | (rw [Bool.eq_false_iff, ne_eq, smallB_iff]; omega))
    first
      | (obtain rfl := hc
         go_enter Try.func28, Try.ntmps28
         go_wp2_with fail
         go_ret
         exact ⟨retB (by rw [HS.out]), rfl⟩)
      | (have n1 : (r != 247) = true := by simp; omega
         have n2 : (r != 962) = true := by simp; omega
         go_enter Try.func28, Try.ntmps28
         go_wp2_with fail
         go_ret
         exact ⟨retB (by rw [HS.out]), rfl⟩)
  by_cases hc : r ≤ 969
  · have HS := Lib.hid (show smallB r = true from by first | (rw [smallB_iff]; omega) | (rw [Bool.eq_false_iff, ne_eq, smallB_iff]; omega))
    first
      | (obtain rfl := hc
         go_enter Try.func28, Try.ntmps28
         go_wp2_with fail
         go_ret
         exact ⟨retB (by rw [HS.out]), rfl⟩)
      | (have n1 : (r != 247) = true := by simp; omega
         have n2 : (r != 962) = true := by simp; omega
         go_enter Try.func28, Try.ntmps28
         go_wp2_with fail
         go_ret
         exact ⟨retB (by rw [HS.out]), rfl⟩)
  have HS := Lib.hid (show smallB r = false from by rw [Bool.eq_false_iff, ne_eq, smallB_iff]; omega)
  have n1 : (r != 247) = true := by simp; omega
  have n2 : (r != 962) = true := by simp; omega
  go_enter Try.func28, Try.ntmps28
  go_wp2_with fail
  go_ret
  exact ⟨retB (by rw [HS.out]), rfl⟩
theorem rsmall_at {r : Int} {b : Bool} (h : letB r = b) (w : World) : Calls Try.prog 28 #[.int .i32 (foldR r)] w fun e w' => e = .returned (.bool b) ∧ w = w' := by
  have := rsmall_any (foldR r) w
  unfold letB at h
  rwa [h] at this
set_option maxRecDepth 100000 in
set_option maxHeartbeats 400000 in
theorem rfold_any (r : Int) (w : World) (h0 : 0 ≤ r) (h1 : r ≤ 1114111) : Calls Try.prog 29 #[.int .i32 r] w fun e w' => e = .returned (.int .i32 (foldR r)) ∧ w = w' := by
  have hs := rsmall_any (r + 32) w
  cases hb : smallB (r + 32) with
  | true =>
    have HF := Lib.hid (fold_yes hb)
    rw [hb] at hs
    clear hb
    go_enter Try.func29, Try.ntmps29
    go_wp2_with fail
    refine hs.mono ?_
    rintro e w1 ⟨rfl, rfl⟩
    clear hs
    go_wp2_with fail
    go_ret
    exact ⟨ret1 HF.out.symm, rfl⟩
  | false =>
    have HF := Lib.hid (fold_no hb)
    rw [hb] at hs
    clear hb
    go_enter Try.func29, Try.ntmps29
    go_wp2_with fail
    refine hs.mono ?_
    rintro e w1 ⟨rfl, rfl⟩
    clear hs
    go_wp2_with fail
    go_ret
    exact ⟨ret1 HF.out.symm, rfl⟩
set_option maxRecDepth 100000 in
set_option maxHeartbeats 1000000 in
theorem rrunes_any (s : ByteArray) (w : World) (hs : s.size ≤ 35184372088831) : Calls Try.prog 27 #[.string s] w fun e w' => ∃ v, e = .returned v ∧ w'.ownsRow w.heap.size 21 1 v (rs s).length ((rs s).map encR) ∧ Below w.heap.size w w' := by
  obtain ⟨i0, hi, hz0, hz1, hz2⟩ := info_parts info21
  go_enter Try.func27, Try.ntmps27
  go_wp2_with fail
  have I0 := Lib.hid (iter_it w s)
  have B0 := Lib.hid (show Below w.heap.size w (w.iter s 0) from (by repeat (first | exact Below.refl _ _ | assumption | refine Below.setCell ?_ (by first | omega | (simp; done) | (simp; omega)) _ | refine Below.drew ?_ | refine Below.alloc ?_ (by first | omega | (simp; done) | (simp; omega)) _ | refine Below.trans ?_ (Below.mono (by assumption) (by first | omega | (simp; done) | (simp; omega))))))
  go_loopw [3] (fun v wr => ∃ (pos : Nat) (done : List Int), wr.ownsRow w.heap.size 21 1 v done.length (done.map encR) ∧ rs s = done ++ runesL (s.data.toList.drop pos) ∧ done.length ≤ pos ∧ pos ≤ s.size ∧ It wr w.heap.size s pos ∧ Below w.heap.size w wr) (fun _ wr => s.size - wr.iterPos w.heap.size)
  case atStart => exact ⟨0, [], World.ownsRow_nil _ _ _ _, by simp [rs], by simp, by omega, I0.out, B0.out⟩
  case round =>
    clear I0 B0
    obtain ⟨pos, done, hO, hn, hdl, hps, hI, hB⟩ := hrel
    have hip := hI.pos
    by_cases hp : pos < s.size
    · have hnx : ∀ ty, (Instr.next (.pointer (some ⟨w.heap.size, 0, none⟩)) true ty).run Try.prog wr = _ := fun ty => run_next_any_at wr w.heap.size s pos ty hI hp
      have I2 := Lib.hid (hI.next (pos + (Utf8.decode s pos).2))
      have B2 := Lib.hid (below_iterAt hB (Nat.le_refl _) s (pos + (Utf8.decode s pos).2))
      have O2 := Lib.hid (owns_iter hO hI (pos + (Utf8.decode s pos).2))
      have hw1 := width_pos s pos hp
      have hw2 := width_le s pos hp
      rw [runes_at hp] at hn
      obtain ⟨c, hc⟩ : ∃ c, (Utf8.decode s pos).1 = c := ⟨_, rfl⟩
      rw [hc] at hnx hn
      have HN := Lib.hid hn
      clear hn hI hB hc hO
      have hpp : pos < pos + (Utf8.decode s pos).2 := by omega
      generalize pos + (Utf8.decode s pos).2 = pos' at *
      generalize wr.iterAt w.heap.size s pos' = W2 at *
      have hsz := B2.out.size
      go_wp2_with (at_builtin; refine wpList_append_own _ rfl _ _ 36 rfl w.heap.size 21 i0 _ 1 4 Try.underlying36 hi hz0 hz1 hz2 rfl (by omega) _ _ _ rfl (O2.out.alloc _) ⟨W2.heap.size, 0, none⟩ 1 1 [encR c] rfl rfl (cell_one_new _ _ _) (by simp [Value.oneCell', encR]) (by unfold maxLen; omega) (by omega) (by simp; omega) ?_; intro v' w1 hown' hgrow _; have I4 := Lib.hid (I2.out.grown hgrow O2.out); have B4 := Lib.hid ((B2.out.alloc hsz _).grown hgrow (by simp; omega) (fun g e => (O2.out.lt g e).1)); have O4 := Lib.hid hown'; clear hown' hgrow)
      go_roundw
      case rel => exact ⟨pos', done ++ [(c : Int)], by simpa using O4.out, by rw [HN.out]; simp, by simp; omega, by omega, I4.out, B4.out⟩
      case measure => rw [I4.out.pos, hip]; omega
    · have hnx : ∀ ty, (Instr.next (.pointer (some ⟨w.heap.size, 0, none⟩)) true ty).run Try.prog wr = _ := fun ty => run_next_end_at wr w.heap.size s pos ty hI hp
      rw [runes_end hp, List.append_nil] at hn
      have HN := Lib.hid hn
      have BB := Lib.hid hB
      have OO := Lib.hid hO
      clear hn hI hB hO
      go_wp2_with fail
      go_ret
      exact ⟨_, rfl, by rw [HN.out]; exact OO.out, BB.out⟩
end Go.Proofs.Ytklfocciomngnaa
