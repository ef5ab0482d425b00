/- The walks over New and Play. -/
import Derived.Test.YthmkmjoeceghiaaD
namespace Go.Proofs.Ythmkmjoeceghiaa
open Go.RowKit

attribute [local go_sem ↓] Go.wp_at_zero Go.wp_at_succ
set_option maxHeartbeats 400000 in
theorem new_any (w : World) : Calls Try.prog 21 #[] w fun e w' => e = .returned (.pointer (some ⟨w.heap.size + 1, 0, none⟩)) ∧ Hp w' (w.heap.size + 1) w.heap.size 0 [] ∧ Below w.heap.size w w' := by
  have hmm := @run_makeMap Try.prog
  have h1 := World.ownsMap_made w Try.prog 30 (unitElem (H := Unit))
  have h2 := Blk.new (w.alloc (.map #[] 0)) #[.map (some w.heap.size)] 44
  have hz : (w.alloc (.map #[] 0)).heap.size = w.heap.size + 1 := by simp
  rw [hz] at h2
  have h3 : Below w.heap.size w ((w.alloc (.map #[] 0)).alloc (.cells #[.map (some w.heap.size)] 44)) := ((Below.refl _ _).alloc (Nat.le_refl _) _).alloc (by simp) _
  have H : Hid (Hp ((w.alloc (.map #[] 0)).alloc (.cells #[.map (some w.heap.size)] 44)) (w.heap.size + 1) w.heap.size 0 []) := ⟨h2, ⟨_, h1.alloc _, fun o _ => by simp [Maps.has]⟩, fun o h => by cases h⟩
  have HB := Lib.hid h3
  clear h1 h2 hz h3
  go_enter Try.func21, Try.ntmps21
  go_wp2_with fail
  go_ret
  exact ⟨rfl, H.out, HB.out⟩

theorem on2 {w a b : World} (h : Below w.heap.size w a) (k : Below a.heap.size a b) : Below w.heap.size w b := h.trans (k.mono h.size)
theorem retPlay {a b : Int} {p : Int × Int} (h : p = (a, b)) : Ending.returned (.tuple #[.int .i64 a, .int .i64 b]) = .returned (.tuple #[.int .i64 p.1, .int .i64 p.2]) := by rw [h]
set_option maxRecDepth 100000 in
set_option maxHeartbeats 1000000 in
theorem play_any (l : List Dd) (a : Option Addr) (cap : Nat) (w : World) (hl : l.length < maxLen) (hw : WfD l) (hI : IsDeeds w a l) :
    Calls Try.prog 16 #[.slice a l.length cap] w fun e w' => e = .returned (.tuple #[.int .i64 (playR l).1, .int .i64 (playR l).2]) ∧ Below w.heap.size w w' := by
  have HI := Lib.hid hI
  have HWF := Lib.hid hw
  have hlm : l.length ≤ 9223372036854775807 := by unfold maxLen at hl; omega
  clear hI hw
  go_enter Try.func16, Try.ntmps16
  go_wp2_with fail
  refine (new_any w).mono ?_
  rintro e w1 ⟨rfl, h1, hb⟩
  have H1 := Lib.hid h1
  have HB1 := Lib.hid hb
  obtain ⟨M, hM⟩ : ∃ M, M = w.heap.size := ⟨_, rfl⟩
  have hMl : w.heap.size ≤ M := by omega
  rw [← hM] at H1 ⊢
  clear h1 hb hM
  go_wp2_with fail
  go_loopw [11] (fun i wr => ∃ k : Nat, k ≤ l.length ∧ i = .int .i64 k ∧ okTo l k ∧ Hp wr (M + 1) M k (stAt l k) ∧ Below w.heap.size w wr) (fun i _ => l.length - (intOf i).toNat)
  case atStart => exact ⟨0, Nat.zero_le _, rfl, okTo_zero l, H1.out, HB1.out⟩
  case round =>
    clear H1 HB1
    obtain ⟨k, hk, rfl, hok, hH, hb⟩ := hrel
    have OK := Lib.hid hok
    have H := Lib.hid hH
    have HB := Lib.hid hb
    have HD := Lib.hid (HI.out.below hb)
    clear hok hH hb
    by_cases hlt : k < l.length
    · obtain ⟨g, off, rfl, hc⟩ := HD.out (by intro e; rw [e] at hlt; simp at hlt)
      obtain ⟨d, hd⟩ : ∃ d, l[k]? = some d := ⟨_, List.getElem?_eq_getElem hlt⟩
      obtain ⟨c0, c1, c2, c3⟩ := hc k d hd
      have hwf := HWF.out d (List.mem_of_getElem? hd)
      have HDK := Lib.hid hd
      have h0 : (0 : Int) ≤ (k : Int) := by omega
      have h1 : (k : Int) < (l.length : Int) := by omega
      clear hc hd HD
      obtain ⟨dk, d0, d1, d2⟩ := d
      dsimp only at c0 c1 c2 c3
      go_wp2_with fail
      have hal : Below wr.heap.size wr (wr.alloc (.cells #[.int .i64 dk, .int .i64 d0, .int .i64 d1, .int .i64 d2] 32)) := (by repeat (first | exact Below.refl _ _ | assumption | refine Below.setCell ?_ (by first | omega | (simp; done) | (simp; omega)) _ | refine Below.drew ?_ | refine Below.alloc ?_ (by first | omega | (simp; done) | (simp; omega)) _ | refine Below.trans ?_ (Below.mono (by assumption) (by first | omega | (simp; done) | (simp; omega)))))
      have hbA := on2 HB.out hal
      refine (do_any (M + 1) M k (stAt l k) (dk, d0, d1, d2) _ (H.out.below hal) hwf (by omega)).mono ?_
      rintro e w2 ⟨rfl, hH2, hg⟩
      have H2 := Lib.hid hH2
      have HB2 := Lib.hid (show Below w.heap.size w w2 from hbA.grown hg hbA.size (fun g e => by cases e; exact hMl))
      clear hal hbA hH2 hg c0 c1 c2 c3
      by_cases he : doE (stAt l k) (dk, d0, d1, d2) = 0
      · have hne : (doE (stAt l k) (dk, d0, d1, d2) != 0) = false := by simpa using he
        have OK2 := Lib.hid (okTo_succ OK.out HDK.out he)
        have ST := Lib.hid (stAt_succ HDK.out)
        clear he
        go_wp2_with fail
        go_roundw
        case rel => exact ⟨k + 1, by omega, by go_num, OK2.out, by rw [ST.out]; exact H2.out, HB2.out⟩
        case measure => simp [intOf]; omega
      · have hne : (doE (stAt l k) (dk, d0, d1, d2) != 0) = true := by simpa using he
        have PR := Lib.hid (playR_bad OK.out HDK.out he)
        clear he
        go_wp2_with fail
        go_ret2
        exact ⟨retPlay PR.out, HB2.out⟩
    · obtain rfl : k = l.length := by omega
      have PR := Lib.hid (playR_ok OK.out)
      clear HD
      go_wp2_with fail
      go_ret2
      exact ⟨retPlay PR.out, HB.out⟩
end Go.Proofs.Ythmkmjoeceghiaa
