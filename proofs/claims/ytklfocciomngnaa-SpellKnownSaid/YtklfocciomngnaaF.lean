/- Fold and Cut. -/
import Derived.Test.YtklfocciomngnaaE
namespace Go.Proofs.Ytklfocciomngnaa
open Go.RowKit Go.Lib

theorem block_lt {w : World} {k : Nat} {o : Obj} (h : w.heap[k]? = some o) : k < w.heap.size := (Array.getElem?_eq_some_iff.1 h).1
theorem builder_below {T e : TypeId} {B b : Nat} {p : Value} {bs : List Value} {w w' : World} (h : BuilderAtF T e B b p bs w) (hb : Below w.heap.size w w') : BuilderAtF T e B b p bs w' := by
  obtain ⟨hB, v, hbk, hown, hne⟩ := h
  refine ⟨hB, v, (hb.block b (block_lt hbk)).trans hbk, ⟨hown.1, ?_⟩, hne⟩
  rcases hown.2 with hn | ⟨g, cap, cur, fz, hv, hbg, hg, rest⟩
  · exact .inl hn
  · exact .inr ⟨g, cap, cur, fz, hv, hbg, (hb.block g (block_lt hg)).trans hg, rest⟩
theorem isBuilder_below {T e : TypeId} {B b : Nat} {bs : List Value} {w w' : World} (h : IsBuilderF T e B b bs w) (hb : Below w.heap.size w w') : IsBuilderF T e B b bs w' := h.elim (fun h => Or.inl (builder_below h hb)) (fun h => Or.inr (builder_below h hb))
/-- what a text is, folded -/
def foldL (s : ByteArray) : List UInt8 := encL ((rs s).map foldR)
def strL (l : List UInt8) : Value := .string ⟨l.toArray⟩
theorem cells_snoc (l : List Int) (r : Int) : byteCells (encL l) ++ runeCells r = byteCells (encL (l ++ [r])) := by
  rw [encL_append, byteCells_append, ← byteCells_encodeRune]; simp [encL]
theorem cells_len (l : List Int) : (byteCells (encL l)).length ≤ 4 * l.length := by
  rw [byteCells_length]; exact encL_len l
set_option maxHeartbeats 2000000 in
set_option maxRecDepth 1000000 in
theorem pfold_any (s : ByteArray) (w : World) (hs : s.size ≤ 35184372088831) : Calls Try.prog 14 #[.string s] w fun e w' => e = .returned (.string ⟨(foldL s).toArray⟩) ∧ Below w.heap.size w w' := by
  go_enter Try.func14, Try.ntmps14
  go_wp2_with fail
  have F0 := Lib.hid ((Lib.IsBuilderF.of (Lib.fresh_isBuilder 41 5 w)).alloc (.stringIter s 0))
  have I0 : It ((w.alloc (.cells #[.pointer none, .slice none 0 0] 41)).iter s 0) (w.heap.size + 1) s 0 := by
    have := iter_it (w.alloc (.cells #[.pointer none, .slice none 0 0] 41)) s
    rwa [World.size_alloc] at this
  have J0 := Lib.hid I0
  clear I0
  go_loopw [] (fun wr => ∃ (pos : Nat) (done : List Int), IsBuilderF 41 5 w.heap.size w.heap.size (byteCells (encL (done.map foldR))) wr ∧ It wr (w.heap.size + 1) s pos ∧ Below w.heap.size w wr ∧ rs s = done ++ runesL (s.data.toList.drop pos) ∧ done.length ≤ pos) (fun wr => s.size - wr.iterPos (w.heap.size + 1))
  case atStart => exact ⟨0, [], F0.out, J0.out, (by repeat (first | exact Below.refl _ _ | assumption | refine Below.setCell ?_ (by first | omega | (simp; done) | (simp; omega)) _ | refine Below.drew ?_ | refine Below.alloc ?_ (by first | omega | (simp; done) | (simp; omega)) _ | refine Below.trans ?_ (Below.mono (by assumption) (by first | omega | (simp; done) | (simp; omega))))), by simp [rs], by simp⟩
  case round =>
    clear F0 J0
    obtain ⟨pos, done, hF, hI, hB, hn, hdl⟩ := hrel
    have hip := hI.pos
    by_cases hp : pos < s.size
    · have hnx : ∀ ty, (Instr.next (.pointer (some ⟨w.heap.size + 1, 0, none⟩)) true ty).run Try.prog wr = _ := fun ty => run_next_any_at wr (w.heap.size + 1) s pos ty hI hp
      have F2 := Lib.hid (hF.iterAt hI (pos + (Utf8.decode s pos).2))
      have I2 := Lib.hid (hI.next (pos + (Utf8.decode s pos).2))
      have B2 := Lib.hid (below_iterAt hB (show w.heap.size ≤ w.heap.size + 1 by omega) s (pos + (Utf8.decode s pos).2))
      have hw1 := width_pos s pos hp
      rw [runes_at hp] at hn
      have hbd := decode_bd s pos
      obtain ⟨c, hc⟩ : ∃ c, (Utf8.decode s pos).1 = c := ⟨_, rfl⟩
      rw [hc] at hnx hn hbd
      have HN := Lib.hid hn
      clear hn hI hB hc hF
      have hpp : pos < pos + (Utf8.decode s pos).2 := by omega
      generalize pos + (Utf8.decode s pos).2 = pos' at *
      generalize wr.iterAt (w.heap.size + 1) s pos' = W2 at *
      have hfo := fold_any (c : Int) W2 (by omega) (by omega)
      have hfb : -2147483648 ≤ foldR c ∧ foldR c ≤ 2147483647 := by unfold foldR; split <;> omega
      go_wp2_with fail
      refine hfo.mono ?_
      rintro e w3 ⟨rfl, hb⟩
      replace F2 := Lib.hid (isBuilder_below F2.out hb)
      replace I2 := Lib.hid (I2.out.below hb)
      replace B2 := Lib.hid (on B2.out hb)
      have hs3 := Lib.hid B2.out.size
      clear hb hfo hnx
      have hcl := cells_len (done.map foldR)
      rw [List.length_map] at hcl
      go_wp2_with fail
      refine (write_rune w.heap.size w.heap.size _ (foldR c) hfb.1 hfb.2 w3 F2.out (by omega) hs3.out).mono ?_
      rintro e w4 ⟨rfl, h1, b1, k1⟩
      rw [cells_snoc] at h1
      have F4 := Lib.hid (show IsBuilderF 41 5 w.heap.size w.heap.size (byteCells (encL ((done ++ [(c : Int)]).map foldR))) w4 from .inr (by rw [List.map_append]; exact h1))
      have I4 := Lib.hid (show It w4 (w.heap.size + 1) s pos' from k1.iter I2.out (by omega))
      have B4 := Lib.hid (B2.out.trans b1)
      clear h1 b1 k1 F2 I2 B2 hcl
      go_wp2_with fail
      go_roundw
      case rel => exact ⟨pos', done ++ [(c : Int)], F4.out, I4.out, B4.out, by rw [HN.out]; simp, by simp; omega⟩
      case measure => rw [I4.out.pos, hip]; omega
    · have hnx : ∀ ty, (Instr.next (.pointer (some ⟨w.heap.size + 1, 0, none⟩)) true ty).run Try.prog wr = _ := fun ty => run_next_end_at wr (w.heap.size + 1) s pos ty hI hp
      rw [runes_end hp, List.append_nil] at hn
      have hst := Builder_String_any_k w.heap.size w.heap.size (encL (done.map foldR)) wr hF hB.size
      have HN := Lib.hid (show foldL s = encL (done.map foldR) by unfold foldL; rw [hn])
      have BB := Lib.hid hB
      clear hn hI hF hB
      go_wp2_with fail
      refine hst.mono ?_
      rintro e w3 ⟨rfl, -, b1, -⟩
      clear hst
      go_wp2_with fail
      go_ret
      exact ⟨by rw [HN.out]; rfl, BB.out.trans b1⟩
/-- the first runes of a text -/
def cutL (s : ByteArray) (n : Int) : List UInt8 := encL ((rs s).take n.toNat)
set_option maxHeartbeats 2000000 in
set_option maxRecDepth 1000000 in
theorem pcut_any (s : ByteArray) (n : Int) (w : World) (hs : s.size ≤ 35184372088831) (hn64 : -9223372036854775808 ≤ n ∧ n ≤ 9223372036854775807) : Calls Try.prog 21 #[.string s, .int .i64 n] w fun e w' => e = .returned (.string ⟨(cutL s n).toArray⟩) ∧ Below w.heap.size w w' := by
  go_enter Try.func21, Try.ntmps21
  go_wp2_with fail
  have F0 := Lib.hid ((Lib.IsBuilderF.of (Lib.fresh_isBuilder 41 5 w)).alloc (.stringIter s 0))
  have I0 : It ((w.alloc (.cells #[.pointer none, .slice none 0 0] 41)).iter s 0) (w.heap.size + 1) s 0 := by
    have := iter_it (w.alloc (.cells #[.pointer none, .slice none 0 0] 41)) s
    rwa [World.size_alloc] at this
  have J0 := Lib.hid I0
  clear I0
  go_loopw [1] (fun nv wr => ∃ (pos : Nat) (done : List Int) (m : Int), nv = .int .i64 m ∧ m = n - done.length ∧ done.length ≤ n.toNat ∧ IsBuilderF 41 5 w.heap.size w.heap.size (byteCells (encL done)) wr ∧ It wr (w.heap.size + 1) s pos ∧ Below w.heap.size w wr ∧ rs s = done ++ runesL (s.data.toList.drop pos) ∧ done.length ≤ pos) (fun _ wr => s.size - wr.iterPos (w.heap.size + 1))
  case atStart => exact ⟨0, [], n, rfl, by simp, by simp, F0.out, J0.out, (by repeat (first | exact Below.refl _ _ | assumption | refine Below.setCell ?_ (by first | omega | (simp; done) | (simp; omega)) _ | refine Below.drew ?_ | refine Below.alloc ?_ (by first | omega | (simp; done) | (simp; omega)) _ | refine Below.trans ?_ (Below.mono (by assumption) (by first | omega | (simp; done) | (simp; omega))))), by simp [rs], by simp⟩
  case round =>
    clear F0 J0
    obtain ⟨pos, done, m, rfl, hm, hdn, hF, hI, hB, hn, hdl⟩ := hrel
    have hip := hI.pos
    have HM := Lib.hid hm
    by_cases hp : pos < s.size
    · have hnx : ∀ ty, (Instr.next (.pointer (some ⟨w.heap.size + 1, 0, none⟩)) true ty).run Try.prog wr = _ := fun ty => run_next_any_at wr (w.heap.size + 1) s pos ty hI hp
      have F2 := Lib.hid (hF.iterAt hI (pos + (Utf8.decode s pos).2))
      have I2 := Lib.hid (hI.next (pos + (Utf8.decode s pos).2))
      have B2 := Lib.hid (below_iterAt hB (show w.heap.size ≤ w.heap.size + 1 by omega) s (pos + (Utf8.decode s pos).2))
      have hw1 := width_pos s pos hp
      by_cases hm0 : m ≤ 0
      · have HN := Lib.hid (show cutL s n = encL done by
          unfold cutL
          rw [hn, show n.toNat = done.length by omega, List.take_left])
        clear hn hI hB hF hm
        generalize pos + (Utf8.decode s pos).2 = pos' at *
        generalize wr.iterAt (w.heap.size + 1) s pos' = W2 at *
        have hst := Builder_String_any_k w.heap.size w.heap.size (encL done) W2 F2.out B2.out.size
        go_wp2_with fail
        refine hst.mono ?_
        rintro e w3 ⟨rfl, -, b1, -⟩
        clear hst
        go_wp2_with fail
        go_ret
        exact ⟨by rw [HN.out]; rfl, B2.out.trans b1⟩
      · rw [runes_at hp] at hn
        have hbd := decode_bd s pos
        obtain ⟨c, hc⟩ : ∃ c, (Utf8.decode s pos).1 = c := ⟨_, rfl⟩
        rw [hc] at hnx hn hbd
        have HN := Lib.hid hn
        have hmb : m ≤ 9223372036854775807 := by omega
        have hlt : done.length < n.toNat := by omega
        clear hn hI hB hc hF hm
        have hpp : pos < pos + (Utf8.decode s pos).2 := by omega
        generalize pos + (Utf8.decode s pos).2 = pos' at *
        generalize wr.iterAt (w.heap.size + 1) s pos' = W2 at *
        have hcl := cells_len done
        have hs3 := Lib.hid B2.out.size
        go_wp2_with fail
        refine (write_rune w.heap.size w.heap.size _ (c : Int) (by omega) (by omega) W2 F2.out (by omega) hs3.out).mono ?_
        rintro e w4 ⟨rfl, h1, b1, k1⟩
        rw [cells_snoc] at h1
        have F4 := Lib.hid (show IsBuilderF 41 5 w.heap.size w.heap.size (byteCells (encL (done ++ [(c : Int)]))) w4 from .inr h1)
        have I4 := Lib.hid (show It w4 (w.heap.size + 1) s pos' from k1.iter I2.out (by omega))
        have B4 := Lib.hid (B2.out.trans b1)
        clear h1 b1 k1 F2 I2 B2 hcl
        go_wp2_with fail
        go_roundw
        case rel => exact ⟨pos', done ++ [(c : Int)], m - 1, rfl, by have := HM.out; simp; omega, by simp; omega, F4.out, I4.out, B4.out, by rw [HN.out]; simp, by simp; omega⟩
        case measure => rw [I4.out.pos, hip]; omega
    · have hnx : ∀ ty, (Instr.next (.pointer (some ⟨w.heap.size + 1, 0, none⟩)) true ty).run Try.prog wr = _ := fun ty => run_next_end_at wr (w.heap.size + 1) s pos ty hI hp
      rw [runes_end hp, List.append_nil] at hn
      have hst := Builder_String_any_k w.heap.size w.heap.size (encL done) wr hF hB.size
      have HN := Lib.hid (show cutL s n = encL done by unfold cutL; rw [hn, List.take_of_length_le hdn])
      have BB := Lib.hid hB
      clear hn hI hF hB hm
      go_wp2_with fail
      refine hst.mono ?_
      rintro e w3 ⟨rfl, -, b1, -⟩
      clear hst
      go_wp2_with fail
      go_ret
      exact ⟨by rw [HN.out]; rfl, BB.out.trans b1⟩
end Go.Proofs.Ytklfocciomngnaa
