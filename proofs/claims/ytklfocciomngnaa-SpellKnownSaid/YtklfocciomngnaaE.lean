/- fold, Runes, Check, Fold, Cut. -/
import Derived.Test.YtklfocciomngnaaD
import Derived.Lib.OthersKept
namespace Go.Proofs.Ytklfocciomngnaa
open Go.RowKit Go.Lib

theorem fold_yes {r : Int} (h : smallB (r + 32) = true) : foldR r = r + 32 := by unfold foldR; rw [if_pos h]
theorem fold_no {r : Int} (h : smallB (r + 32) = false) : foldR r = r := by unfold foldR; rw [if_neg (by rw [h]; exact Bool.false_ne_true)]
set_option maxRecDepth 100000 in
set_option maxHeartbeats 400000 in
theorem fold_any (r : Int) (w : World) (h0 : 0 ≤ r) (h1 : r ≤ 1114111) : Calls Try.prog 26 #[.int .i32 r] w fun e w' => e = .returned (.int .i32 (foldR r)) ∧ Below w.heap.size w w' := by
  have hs := small_any (r + 32) w
  cases hb : smallB (r + 32) with
  | true =>
    have HF := Lib.hid (fold_yes hb)
    rw [hb] at hs
    clear hb
    go_enter Try.func26, Try.ntmps26
    go_wp2_with fail
    refine hs.mono ?_
    rintro e w1 ⟨rfl, hb⟩
    clear hs
    go_wp2_with fail
    go_ret
    exact ⟨ret1 HF.out.symm, hb⟩
  | false =>
    have HF := Lib.hid (fold_no hb)
    rw [hb] at hs
    clear hb
    go_enter Try.func26, Try.ntmps26
    go_wp2_with fail
    refine hs.mono ?_
    rintro e w1 ⟨rfl, hb⟩
    clear hs
    go_wp2_with fail
    go_ret
    exact ⟨ret1 HF.out.symm, hb⟩
/-- the iterator of text s in block K stands at pos -/
def It (w : World) (K : Nat) (s : ByteArray) (pos : Nat) : Prop := w.heap[K]? = some (.stringIter s pos)
theorem It.lt {w : World} {K : Nat} {s : ByteArray} {pos : Nat} (h : It w K s pos) : K < w.heap.size := (Array.getElem?_eq_some_iff.1 h).1
theorem It.below {w w' : World} {K : Nat} {s : ByteArray} {pos : Nat} (h : It w K s pos) (hb : Below w.heap.size w w') : It w' K s pos := (hb.block K h.lt).trans h
theorem It.next {w : World} {K : Nat} {s : ByteArray} {pos : Nat} (h : It w K s pos) (pos' : Nat) : It (w.iterAt K s pos') K s pos' := iterAt_heap w K s pos pos' h
theorem It.pos {w : World} {K : Nat} {s : ByteArray} {pos : Nat} (h : It w K s pos) : w.iterPos K = pos := by
  unfold It at h; simp [World.iterPos, h]
theorem width_pos (s : ByteArray) (pos : Nat) (h : pos < s.size) : 1 ≤ (Utf8.decode s pos).2 := by
  rw [← decodeL_drop]; exact decodeL_width _
theorem width_le (s : ByteArray) (pos : Nat) (h : pos < s.size) : pos + (Utf8.decode s pos).2 ≤ s.size := by
  rw [← decodeL_drop]
  have hne : s.data.toList.drop pos ≠ [] := by intro e; have := congrArg List.length e; simp at this; have := s.size_data; omega
  have := decodeL_le _ hne
  simp at this
  have := s.size_data
  omega
theorem runes_at {s : ByteArray} {pos : Nat} (h : pos < s.size) : runesL (s.data.toList.drop pos) = ((Utf8.decode s pos).1 : Int) :: runesL (s.data.toList.drop (pos + (Utf8.decode s pos).2)) := by
  have hne : s.data.toList.drop pos ≠ [] := by intro e; have := congrArg List.length e; simp at this; have := s.size_data; omega
  rw [runesL_step hne, decodeL_drop, List.drop_drop]
theorem runes_end {s : ByteArray} {pos : Nat} (h : ¬ pos < s.size) : runesL (s.data.toList.drop pos) = [] := by
  rw [List.drop_of_length_le (by simp; have := s.size_data; omega)]; rfl
/-- a text's runes -/
def rs (s : ByteArray) : List Int := runesL s.data.toList
theorem rs_len (s : ByteArray) : (rs s).length ≤ s.size := by
  have := runesL_len s.data.toList
  have := s.size_data
  simp at *
  unfold rs
  omega
theorem rs_vr (s : ByteArray) : ∀ r ∈ rs s, VR r := runesL_vr _
theorem iter_it (w : World) (s : ByteArray) : It (w.iter s 0) w.heap.size s 0 := by
  unfold It
  have := World.iter_heap w s 0
  simpa using this
set_option maxRecDepth 100000 in
set_option maxHeartbeats 400000 in
theorem runes_any (s : ByteArray) (w : World) (hs : s.size ≤ 9223372036854775807) : Calls Try.prog 12 #[.string s] w fun e w' => e = .returned (.int .i64 (rs s).length) ∧ Below w.heap.size w w' := by
  have hrl := rs_len s
  go_enter Try.func12, Try.ntmps12
  go_wp2_with fail
  have I0 := Lib.hid (iter_it w s)
  have B0 := Lib.hid (show Below w.heap.size w (w.iter s 0) from (by repeat (first | exact Below.refl _ _ | assumption | refine Below.setCell ?_ (by first | omega | (simp; done) | (simp; omega)) _ | refine Below.drew ?_ | refine Below.alloc ?_ (by first | omega | (simp; done) | (simp; omega)) _ | refine Below.trans ?_ (Below.mono (by assumption) (by first | omega | (simp; done) | (simp; omega))))))
  go_loopw [2] (fun nv wr => ∃ pos n : Nat, nv = .int .i64 n ∧ n + (runesL (s.data.toList.drop pos)).length = (rs s).length ∧ It wr w.heap.size s pos ∧ Below w.heap.size w wr) (fun _ wr => s.size - wr.iterPos w.heap.size)
  case atStart => exact ⟨0, 0, rfl, by simp [rs], I0.out, B0.out⟩
  case round =>
    clear I0 B0
    obtain ⟨pos, n, rfl, hn, hI, hB⟩ := hrel
    have II := Lib.hid hI
    have BB := Lib.hid hB
    have hip := hI.pos
    by_cases hp : pos < s.size
    · have hnx : ∀ ty, (Instr.next (.pointer (some ⟨w.heap.size, 0, none⟩)) true ty).run Try.prog wr = _ := fun ty => run_next_any_at wr w.heap.size s pos ty hI hp
      have I2 := Lib.hid (hI.next (pos + (Utf8.decode s pos).2))
      have B2 := Lib.hid (below_iterAt hB (Nat.le_refl _) s (pos + (Utf8.decode s pos).2))
      have hw1 := width_pos s pos hp
      rw [runes_at hp] at hn
      have HN := Lib.hid hn
      simp only [List.length_cons] at hn
      have hn2 : n < s.size := by omega
      clear hn hI hB
      go_wp2_with fail
      go_roundw
      case rel => exact ⟨_, n + 1, by go_num, by have := HN.out; simp only [List.length_cons] at this; omega, I2.out, B2.out⟩
      case measure => rw [I2.out.pos, hip]; omega
    · have hnx : ∀ ty, (Instr.next (.pointer (some ⟨w.heap.size, 0, none⟩)) true ty).run Try.prog wr = _ := fun ty => run_next_end_at wr w.heap.size s pos ty hI hp
      rw [runes_end hp] at hn
      have HN := Lib.hid hn
      clear hn hI hB
      go_wp2_with fail
      go_ret
      exact ⟨ret1 (by have := HN.out; simp at this; omega), BB.out⟩
theorem decode_bd (s : ByteArray) (pos : Nat) : (Utf8.decode s pos).1 ≤ 1114111 := by rw [← decodeL_drop]; exact decodeL_rune _
theorem small_at {r : Int} {b : Bool} (h : letB r = b) (w : World) : Calls Try.prog 25 #[.int .i32 (foldR r)] w fun e w' => e = .returned (.bool b) ∧ Below w.heap.size w w' := by
  have := small_any (foldR r) w
  unfold letB at h
  rwa [h] at this
theorem ok_snoc {done : List Int} {c : Int} (h : okF 0 done = true) (h2 : okAt done.length c = true) : okF 0 (done ++ [c]) = true := by
  rw [okF_append, h, Nat.zero_add]; simp [okF, h2]
theorem chk_stop {l done rest : List Int} {c : Int} (h : l = done ++ c :: rest) (hc : okAt done.length c = false) : chkE l = 10 := by
  unfold chkE
  rw [if_neg]
  rw [h, okF_append, okF, Nat.zero_add, hc]
  simp
theorem oth_no {r : Int} (h : ¬ ((48 ≤ r ∧ r ≤ 57) ∨ r = 45 ∨ r = 95)) : othB r = false := by rw [Bool.eq_false_iff, ne_eq, othB_iff]; exact h
set_option maxRecDepth 100000 in
set_option maxHeartbeats 1000000 in
theorem check_any (s : ByteArray) (w : World) (hs : s.size ≤ 9223372036854775807) : Calls Try.prog 10 #[.string s] w fun e w' => e = .returned (.int .i64 (chkE (rs s))) ∧ Below w.heap.size w w' := by
  have hrl := rs_len s
  go_enter Try.func10, Try.ntmps10
  go_wp2_with fail
  have I0 := Lib.hid (iter_it w s)
  have B0 := Lib.hid (show Below w.heap.size w (w.iter s 0) from (by repeat (first | exact Below.refl _ _ | assumption | refine Below.setCell ?_ (by first | omega | (simp; done) | (simp; omega)) _ | refine Below.drew ?_ | refine Below.alloc ?_ (by first | omega | (simp; done) | (simp; omega)) _ | refine Below.trans ?_ (Below.mono (by assumption) (by first | omega | (simp; done) | (simp; omega))))))
  go_loopw [3] (fun nv wr => ∃ (pos : Nat) (done : List Int), nv = .int .i64 done.length ∧ rs s = done ++ runesL (s.data.toList.drop pos) ∧ okF 0 done = true ∧ It wr w.heap.size s pos ∧ Below w.heap.size w wr) (fun _ wr => s.size - wr.iterPos w.heap.size)
  case atStart => exact ⟨0, [], rfl, by simp [rs], rfl, I0.out, B0.out⟩
  case round =>
    clear I0 B0
    obtain ⟨pos, done, rfl, hn, hok, hI, hB⟩ := hrel
    have II := Lib.hid hI
    have BB := Lib.hid hB
    have hip := hI.pos
    have OK := Lib.hid hok
    clear hok
    by_cases hp : pos < s.size
    · have hnx : ∀ ty, (Instr.next (.pointer (some ⟨w.heap.size, 0, none⟩)) true ty).run Try.prog wr = _ := fun ty => run_next_any_at wr w.heap.size s pos ty hI hp
      have I2 := Lib.hid (hI.next (pos + (Utf8.decode s pos).2))
      have B2 := Lib.hid (below_iterAt hB (Nat.le_refl _) s (pos + (Utf8.decode s pos).2))
      have hw1 := width_pos s pos hp
      rw [runes_at hp] at hn
      have hbd := decode_bd s pos
      obtain ⟨c, hc⟩ : ∃ c, (Utf8.decode s pos).1 = c := ⟨_, rfl⟩
      rw [hc] at hnx hn hbd
      have HN := Lib.hid hn
      have hlen : done.length < s.size := by have := congrArg List.length hn; simp at this; omega
      clear hn hI hB hc
      have hpp : pos < pos + (Utf8.decode s pos).2 := by omega
      generalize pos + (Utf8.decode s pos).2 = pos' at *
      generalize wr.iterAt w.heap.size s pos' = W2 at *
      have hfo := fold_any (c : Int) W2 (by omega) (by omega)
      go_wp2_with fail
      refine hfo.mono ?_
      rintro e w3 ⟨rfl, hb⟩
      replace I2 := Lib.hid (I2.out.below hb)
      replace B2 := Lib.hid (on B2.out hb)
      clear hb hfo hnx
      go_wp2_with fail
      cases hl : letB (c : Int) with
      | true =>
        refine (small_at hl _).mono ?_
        rintro e w4 ⟨rfl, hb⟩
        replace I2 := Lib.hid (I2.out.below hb)
        replace B2 := Lib.hid (on B2.out hb)
        have HL := Lib.hid hl
        clear hb hl
        go_wp2_with fail
        all_goals
          go_roundw
          case rel => exact ⟨pos', done ++ [(c : Int)], by simp, by rw [HN.out]; simp, ok_snoc OK.out (by unfold okAt; rw [HL.out]; rfl), I2.out, B2.out⟩
          case measure => rw [I2.out.pos, hip]; omega
      | false =>
        refine (small_at hl _).mono ?_
        rintro e w4 ⟨rfl, hb⟩
        replace I2 := Lib.hid (I2.out.below hb)
        replace B2 := Lib.hid (on B2.out hb)
        have HL := Lib.hid hl
        clear hb hl
        by_cases hd : done.length = 0
        · have hd0 : ((done.length : Int) == 0) = true := by simp; exact List.eq_nil_of_length_eq_zero hd
          have HE := Lib.hid (chk_stop HN.out (show okAt done.length (c : Int) = false by unfold okAt; rw [HL.out, hd]; simp))
          clear hd
          go_wp2_with fail
          all_goals
            go_ret
            exact ⟨ret1 HE.out.symm, B2.out⟩
        · have hd0 : ((done.length : Int) == 0) = false := by simp; intro e; rw [e] at hd; simp at hd
          have HD := Lib.hid hd
          clear hd
          by_cases a1 : (48 : Int) ≤ (c : Int)
          · by_cases a2 : (c : Int) ≤ 57
            · skip
              go_wp2_with fail
              go_roundw
              case rel => exact ⟨pos', done ++ [(c : Int)], by simp, by rw [HN.out]; simp, ok_snoc OK.out (by unfold okAt; rw [(othB_iff _).2 (by omega), decide_eq_true HD.out]; simp), I2.out, B2.out⟩
              case measure => rw [I2.out.pos, hip]; omega
            · have a3 : ((c : Int) == 45) = false := by simp; omega
              by_cases a4 : (c : Int) = 95
              · have a5 : ((c : Int) == 95) = true := by simpa using a4
                go_wp2_with fail
                go_roundw
                case rel => exact ⟨pos', done ++ [(c : Int)], by simp, by rw [HN.out]; simp, ok_snoc OK.out (by unfold okAt; rw [(othB_iff _).2 (by omega), decide_eq_true HD.out]; simp), I2.out, B2.out⟩
                case measure => rw [I2.out.pos, hip]; omega
              · have a5 : ((c : Int) == 95) = false := by simpa using a4
                go_wp2_with fail
                go_ret
                exact ⟨ret1 (chk_stop HN.out (show okAt done.length (c : Int) = false by unfold okAt; rw [HL.out, oth_no (by omega)]; simp)).symm, B2.out⟩
          · have a5 : ((c : Int) == 95) = false := by simp; omega
            by_cases a4 : (c : Int) = 45
            · have a3 : ((c : Int) == 45) = true := by simpa using a4
              go_wp2_with fail
              go_roundw
              case rel => exact ⟨pos', done ++ [(c : Int)], by simp, by rw [HN.out]; simp, ok_snoc OK.out (by unfold okAt; rw [(othB_iff _).2 (by omega), decide_eq_true HD.out]; simp), I2.out, B2.out⟩
              case measure => rw [I2.out.pos, hip]; omega
            · have a3 : ((c : Int) == 45) = false := by simpa using a4
              go_wp2_with fail
              go_ret
              exact ⟨ret1 (chk_stop HN.out (show okAt done.length (c : Int) = false by unfold okAt; rw [HL.out, oth_no (by omega)]; simp)).symm, B2.out⟩
    · have hnx : ∀ ty, (Instr.next (.pointer (some ⟨w.heap.size, 0, none⟩)) true ty).run Try.prog wr = _ := fun ty => run_next_end_at wr w.heap.size s pos ty hI hp
      rw [runes_end hp, List.append_nil] at hn
      have hl2 : done.length ≤ s.size := by rw [← hn]; exact hrl
      have HN := Lib.hid hn
      clear hn hI hB
      by_cases h0 : done.length = 0
      · have hd0 : ((done.length : Int) == 0) = true := by simp; exact List.eq_nil_of_length_eq_zero h0
        have HE := Lib.hid (show chkE (rs s) = 10 from by rw [HN.out]; exact chk_bad_len (by omega))
        clear h0
        go_wp2_with fail
        go_ret
        exact ⟨ret1 HE.out.symm, BB.out⟩
      · have hd0 : ((done.length : Int) == 0) = false := by simp; intro e; rw [e] at h0; simp at h0
        by_cases h16 : 16 < done.length
        · have HE := Lib.hid (show chkE (rs s) = 10 from by rw [HN.out]; exact chk_bad_len (by omega))
          clear h0
          go_wp2_with fail
          go_ret
          exact ⟨ret1 HE.out.symm, BB.out⟩
        · have HE := Lib.hid (show chkE (rs s) = 0 from by rw [HN.out]; unfold chkE; rw [if_pos]; simp [OK.out]; omega)
          clear h0
          go_wp2_with fail
          go_ret
          exact ⟨ret1 HE.out.symm, BB.out⟩
end Go.Proofs.Ytklfocciomngnaa
