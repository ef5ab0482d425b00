/- Many, and the reference's Out and Many. -/
import Derived.Test.YthmkmjoeceghiaaAB
namespace Go.Proofs.Ythmkmjoeceghiaa
open Go.RowKit Go.Shelf Go.Maps

set_option maxRecDepth 100000 in
set_option maxHeartbeats 1000000 in
theorem many_any (B M n : Nat) (S : List Ob) (c : Int) (w : World) (h : Hp w B M n S) (hn : n ≤ 5000000000000) (hS : S.Nodup) :
    Calls Try.prog 25 #[.pointer (some ⟨B, 0, none⟩), .int .i64 c] w fun e W' => e = .returned (.int .i64 (manyL S c)) ∧ Below w.heap.size w W' := by
  obtain ⟨D, hD, hh⟩ := h.map
  have HS := Lib.hid h.wf
  have HN := Lib.hid hS
  have hsz := size_le hD
  have c0 := h.bB.cell (i := 0) rfl
  simp at c0
  have hno := none_any B M n S w h
  clear h hS
  go_enter Try.func25, Try.ntmps25
  go_wp2_with fail
  refine hno.mono ?_
  rintro e w1 ⟨rfl, rfl⟩
  clear hno
  go_wp2_with (at_range; refine wpList_range_own _ rfl _ 42 rfl 30 69 law30 Try.underlying42 _ M n _ rfl hD ?_; intro w0 hrg0 hg0 hs0)
  go_frame
  have R0 := Lib.hid hrg0
  have C0 := Lib.hid (Came.start hh)
  have B0 := Lib.hid (show Below w.heap.size w w0 from (Below.refl _ w).grown hg0 (Nat.le_refl _) (fun k e => by cases e))
  clear hrg0 hg0 hs0 hD hh c0
  go_loopw [4] (fun nv wr => ∃ (left : Lit → Bool) (cnt : Nat) (ys : List Ob), nv = .int .i64 (manyL ys c) ∧ wr.ranges Try.prog 30 (unitElem (H := Unit)) M w.heap.size n D left cnt ∧ ys.length + cnt ≤ n ∧ Came S left ys ∧ Below w.heap.size w wr)
    (fun _ wr => wr.rangeLeft M w.heap.size)
  case atStart => exact ⟨_, _, [], rfl, R0.out, by simpa using hsz, C0.out, B0.out⟩
  case round =>
    clear R0 C0 B0
    obtain ⟨left, cnt, ys, rfl, hrg, hcs, hC, hB⟩ := hrel
    go_wp2_with (at_next; refine wpList_next_ranges _ rfl _ rfl 30 law30 (unitElem (H := Unit)) obV id (fun key kl hk => by obtain ⟨x, _, hx, _⟩ := key_inv hk; exact ⟨x, hx⟩) (fun v _ _ => ⟨v, rfl⟩) M w.heap.size n _ _ _ rfl hrg ?_ ?_)
    · intro hc0 hl0
      have hall := hC.all HS.out hl0
      have HE := Lib.hid (manyL_perm hall.1 HN.out hall.2 c)
      have BB := Lib.hid hB
      clear hrg hC hB hall
      go_wp2_with fail
      go_ret
      exact ⟨ret1 (by rw [HE.out]), BB.out⟩
    · intro o0 o1 o2 cv kx yd yp w2 cnt2 hkey hlk hv hat hrg2 hlt hg2 hs2 hen
      obtain ⟨hx, rfl⟩ := key_ob hkey
      have hb2 : Below w.heap.size w w2 := hB.grown hg2 hB.size (fun k e => by cases e; exact Nat.le_refl _)
      have hsz2 := hb2.size
      have HB2 := Lib.hid hb2
      have HC := Lib.hid (hC.step hx hlk)
      have HR := Lib.hid hrg
      have HR2 := Lib.hid (hrg2.alloc (.cells #[.int .i64 o0, .int .i64 o1, .int .i64 o2] 30))
      have hyl : manyL ys c < 9223372036854775807 := by have := manyL_le ys c; omega
      have HLEN := Lib.hid hcs
      clear hrg hC hB hrg2 hs2 hb2
      dsimp only [obV] at hen
      by_cases he : o0 = c
      · have hm : manyL (ys ++ [(o0, o1, o2)]) c = manyL ys c + 1 := by rw [manyL_snoc, if_pos he]
        have hE := decide_eq_true he
        have HM := Lib.hid hm
        subst he
        clear hm
        go_wp2_with fail
        go_roundw
        case rel => exact ⟨_, cnt2, ys ++ [(o0, o1, o2)], by rw [HM.out]; go_num, HR2.out, by have := HLEN.out; simp; omega, HC.out, HB2.out.alloc hsz2 _⟩
        case measure => rw [HR2.out.left_eq, HR.out.left_eq]; exact hlt
      · have hm : manyL (ys ++ [(o0, o1, o2)]) c = manyL ys c := by rw [manyL_snoc, if_neg he]; rfl
        have hE : (o0 == c) = false := by simpa using he
        have HM := Lib.hid hm
        clear hm
        go_wp2_with fail
        go_roundw
        case rel => exact ⟨_, cnt2, ys ++ [(o0, o1, o2)], by rw [HM.out], HR2.out, by have := HLEN.out; simp; omega, HC.out, HB2.out.alloc hsz2 _⟩
        case measure => rw [HR2.out.left_eq, HR.out.left_eq]; exact hlt
end Go.Proofs.Ythmkmjoeceghiaa
