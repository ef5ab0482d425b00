/- Calls of the chapter's object; what Line answers, asked. The chapter's histories. Histories and numbers as they come in; a call is the same as itself. -/
import Derived.Test.YthmkmjoeceghiaaRA
import Derived.Test.YthmkmjoeceghiaaRB
namespace Go.Proofs.Ythmkmjoeceghiaa
open Go.RowKit

attribute [local go_sem ↓] Go.wp_at_zero Go.wp_at_succ
theorem flatSp_at (l : List Sp) : ∀ (k : Nat) (c : Sp), l[k]? = some c → ∀ j, j < 6 → (l.flatMap spCells)[k * 6 + j]? = (spCells c)[j]? := by
  induction l with
  | nil => intro k c h; simp at h
  | cons x l ih =>
    intro k c h j hj
    have hx : (spCells x).length = 6 := rfl
    rw [List.flatMap_cons]
    cases k with
    | zero =>
      obtain rfl : x = c := by simpa using h
      rw [Nat.zero_mul, Nat.zero_add, List.getElem?_append_left (by omega)]
    | succ k =>
      rw [List.getElem?_append_right (by omega), hx, show (k + 1) * 6 + j - 6 = k * 6 + j by omega]
      exact ih k c (by simpa using h) j hj
theorem flatSp_len (l : List Sp) : (l.flatMap spCells).length = l.length * 6 := by
  induction l with
  | nil => rfl
  | cons x l ih => rw [List.flatMap_cons, List.length_append, ih]; simp [spCells]; omega
theorem isSpans_of {w : World} {g : Nat} {l : List Sp} (h : ∀ i v, (l.flatMap spCells)[i]? = some v → w.cell? ⟨g, i, none⟩ = some v) : IsSpans w (some ⟨g, 0, none⟩) l := fun _ => ⟨g, 0, rfl, fun k c hk => by
  have at_ : ∀ j v, j < 6 → (spCells c)[j]? = some v → w.cell? ⟨g, 0 + k * 6 + j, none⟩ = some v := fun j v hj hv => by
    rw [Nat.zero_add]; exact h _ _ (by rw [flatSp_at l k c hk j hj, hv])
  exact ⟨at_ 0 _ (by omega) rfl, at_ 1 _ (by omega) rfl, at_ 2 _ (by omega) rfl, at_ 3 _ (by omega) rfl, at_ 4 _ (by omega) rfl, at_ 5 _ (by omega) rfl⟩⟩
theorem isSpans_blk {w : World} {g : Nat} {cs : Array Value} {t : TypeId} {l : List Sp} (h : Blk w g cs t) (hc : cs.toList = l.flatMap spCells) : IsSpans w (some ⟨g, 0, none⟩) l :=
  isSpans_of fun i v hv => h.cell (by rw [← Array.getElem?_toList, hc, hv])
theorem isSpans_lit {w : World} {cs : Array Value} {t : TypeId} {l : List Sp} (hc : cs.toList = l.flatMap spCells) : IsSpans (w.alloc (.cells cs t)) (some ⟨w.heap.size, 0, none⟩) l := isSpans_blk (Blk.new w cs t) hc
theorem isSpans_own {w : World} {base n cap : Nat} {a : Option Addr} {l : List Sp} (h : w.ownsRow base 50 6 (.slice a n cap) n (l.flatMap spCells)) : IsSpans w a l := fun hne => by
  have hn : 0 < n := by
    have h1 := h.1
    rw [flatSp_len] at h1
    have : 0 < l.length := List.length_pos_iff.2 hne
    omega
  obtain ⟨g, c, hv, _, _⟩ := h.form hn
  obtain ⟨rfl, rfl⟩ : a = some ⟨g, 0, none⟩ ∧ cap = c := by injection hv with h1 _ h3; exact ⟨h1, h3⟩
  exact isSpans_of (fun i v hv => by
    have hi := (List.getElem?_eq_some_iff.1 hv).1
    rw [h.cellAt i (by rw [← h.1]; exact hi), hv]) hne
theorem wfS_of (l : List Sp) (h : (l.all fun x => decide (-9223372036854775808 ≤ x.1.2.1) && decide (x.1.2.1 ≤ 9223372036854775807) && (decide (-9223372036854775808 ≤ x.1.2.2.1) && decide (x.1.2.2.1 ≤ 9223372036854775807)) && (decide (-9223372036854775808 ≤ x.1.2.2.2) && decide (x.1.2.2.2 ≤ 9223372036854775807))) = true) : WfS l := fun x hx => by
  have := List.all_eq_true.1 h x hx
  simp only [Bool.and_eq_true, decide_eq_true_eq] at this
  exact ⟨⟨this.1.1.1, this.1.1.2⟩, ⟨this.1.2.1, this.1.2.2⟩, ⟨this.2.1, this.2.2⟩⟩
/-- the list as numbers -/
def ints (r : List Nat) : List Int := r.map Int.ofNat
theorem ints_enc (r : List Nat) : r.map encN = (ints r).map encI := by unfold ints; rw [List.map_map]; rfl
theorem ints_len (r : List Nat) : (ints r).length = r.length := by unfold ints; simp
theorem ints_nil : ints [] = [] := rfl
/-- what Line answers is an order -/
theorem line_holds {l : List Sp} (h : lineE l = 0) : holdsB l (ints (lineO l)) = true := by
  by_cases h0 : chk l = 0
  · cases hT : lineT l with
    | none => have := (lineE_no h0 hT).1; omega
    | some r =>
      rw [(lineE_yes h0 hT).2, holds_yes _ h0]
      obtain ⟨σ, rfl, hg⟩ := lineF_goes (chk_zero h0).2 _ _ _ _ hT (fun j hj => by cases hj)
      exact (ord_goes _ [] []).2 hg
  · have := (lineE_bad h0).1; omega
theorem line_empty {l : List Sp} (h : lineE l ≠ 0) : lineO l = [] := by
  by_cases h0 : chk l = 0
  · cases hT : lineT l with
    | none => exact (lineE_no h0 hT).2
    | some r => exact absurd (lineE_yes h0 hT).1 h
  · exact (lineE_bad h0).2
theorem line_kinds (l : List Sp) : lineE l = 0 ∨ lineE l = 270 ∨ (lineE l = chk l ∧ chk l ≠ 0) := by
  by_cases h0 : chk l = 0
  · cases hT : lineT l with
    | none => exact .inr (.inl (lineE_no h0 hT).1)
    | some r => exact .inl (lineE_yes h0 hT).1
  · exact .inr (.inr ⟨(lineE_bad h0).1, h0⟩)
/-- LineIs, opened -/
theorem LineIs.open_ {l : List Sp} {w w' : World} {e : Ending} (h : LineIs l w e w') : ∃ a cap, e = .returned (.tuple #[.slice a (lineO l).length cap, .int .i64 (lineE l)]) ∧ IsSl encI w' a (ints (lineO l)) ∧ Below w.heap.size w w' := by
  obtain ⟨v, rfl, ho, hb⟩ := h
  rw [ints_enc, ← ints_len] at ho
  obtain ⟨a, cap, rfl, hs, _, _⟩ := isSl_of_owns ho
  exact ⟨a, cap, by rw [ints_len], hs, hb⟩
set_option maxHeartbeats 400000 in
theorem span_any (k f t : Int) (w : World) : Calls Try.prog 36 #[.int .i64 k, .int .i64 f, .int .i64 t] w fun e w' => e = .returned (spV ((k, 1, 0, 0), f, t)) ∧ Below w.heap.size w w' := by
  have HB := Lib.hid ((Below.refl w.heap.size w).alloc (Nat.le_refl _) (.cells #[.int .i64 k, .int .i64 1, .int .i64 0, .int .i64 0, .int .i64 f, .int .i64 t] 50))
  go_enter Try.func36, Try.ntmps36
  go_wp2_with fail
  exact bodyPost_ret (v := spV ((k, 1, 0, 0), f, t)) (by simp [results, Try.results36, go_sem]) rfl ⟨rfl, HB.out⟩
/-- a list of the walk's own -/
def LinesIs (w : World) (e : Ending) (w' : World) : Prop := e = .returned (.bool true) ∧ Below w.heap.size w w'
set_option maxRecDepth 100000 in
set_option maxHeartbeats 1000000 in
theorem lines_any (E : Int) (want : List Int) (l : List Sp) (a b : Option Addr) (la lb ka kb : Nat) (w : World) (hl : l.length ≤ 5000000000000) (h1 : want.length = la) (h2 : l.length = lb) (hE : lineE l = E) (hO : ints (lineO l) = want) (hw : WfS l) (hW : IsSl encI w a want) (hI : IsSpans w b l) :
    Calls Try.prog 37 #[.int .i64 E, .slice a la ka, .slice b lb kb] w (LinesIs w) := by
  subst h2
  have HI := Lib.hid hI
  have HW := Lib.hid hW
  have HS := Lib.hid hw
  have HO := Lib.hid hO
  have HE := Lib.hid hE
  have H1 := Lib.hid h1
  have hline := line_any l b kb w hl hw hI
  clear hI hW hw hO hE h1
  go_enter Try.func37, Try.ntmps37
  go_wp2_with fail
  refine hline.mono ?_
  rintro e w1 he
  obtain ⟨c, kc, rfl, hs, hb⟩ := he.open_
  have S1 := Lib.hid hs
  have B1 := Lib.hid hb
  have N1 := Lib.hid (ints_len (lineO l))
  rw [HE.out]
  clear he hs hb hline
  by_cases h0 : E = 0
  · have HH := Lib.hid (show holdsB l (ints (lineO l)) = true from line_holds (by rw [HE.out, h0]))
    have e1 : (E == E) = true := by simp
    have e2 : (E != 0) = false := by simpa using h0
    clear h0
    generalize (lineO l).length = n at *
    go_wp2_with fail
    refine (eqints_at (ints (lineO l)) want true c a n la kc ka w1 N1.out H1.out (decide_eq_true HO.out) S1.out (HW.out.below B1.out)).mono ?_
    rintro e w2 ⟨rfl, hb⟩
    have B2 := Lib.hid (on2 B1.out hb)
    have S2 := Lib.hid (S1.out.below hb)
    clear hb
    go_wp2_with fail
    obtain ⟨n0, hn0⟩ : ∃ m, m = (ints (lineO l)).length := ⟨_, rfl⟩
    have hnn : n = n0 := by rw [hn0]; exact N1.out.symm
    subst hnn
    rw [hn0]
    refine (holds_any l (ints (lineO l)) b c kb kc w2 hl HS.out (HI.out.below B2.out) S2.out).mono ?_
    rintro e w3 ⟨rfl, hb⟩
    rw [HH.out]
    clear hn0
    go_wp2_with fail
    go_ret
    exact ⟨rfl, on2 B2.out hb⟩
  · have e1 : (E == E) = true := by simp
    have e2 : (E != 0) = true := by simpa using h0
    clear h0
    generalize (lineO l).length = n at *
    go_wp2_with fail
    refine (eqints_at (ints (lineO l)) want true c a n la kc ka w1 N1.out H1.out (decide_eq_true HO.out) S1.out (HW.out.below B1.out)).mono ?_
    rintro e w2 ⟨rfl, hb⟩
    have B2 := Lib.hid (on2 B1.out hb)
    clear hb
    go_wp2_with fail
    go_ret
    exact ⟨rfl, B2.out⟩
end Go.Proofs.Ythmkmjoeceghiaa
namespace Go.Proofs.Ythmkmjoeceghiaa
open Go.RowKit

attribute [local go_sem ↓] Go.wp_at_zero Go.wp_at_succ
theorem isInts_blk {w : World} {g : Nat} {cs : Array Value} {t : TypeId} {xs : List Int} (h : Blk w g cs t) (hc : cs.toList = xs.map encI) (hl : xs.length ≤ 9223372036854775807) : IsSl encI w (some ⟨g, 0, none⟩) xs :=
  ⟨hl, fun _ => ⟨g, 0, rfl, fun i x hx => h.cell (by rw [← Array.getElem?_toList, hc, List.getElem?_map, Nat.zero_add, hx]; rfl)⟩⟩
theorem isInts_lit {w : World} {cs : Array Value} {t : TypeId} {xs : List Int} (hc : cs.toList = xs.map encI) (hl : xs.length ≤ 9223372036854775807) : IsSl encI (w.alloc (.cells cs t)) (some ⟨w.heap.size, 0, none⟩) xs := isInts_blk (Blk.new w cs t) hc hl
set_option maxRecDepth 100000 in
set_option maxHeartbeats 2000000 in
theorem works28_any (w : World) : Calls Try.prog 31 #[] w (LinesIs w) := by
  have HB := Lib.hid (Below.refl w.heap.size w)
  have HN := Lib.hid (isInts_lit (w := w) (cs := #[.int .i64 0, .int .i64 1]) (t := 3) (xs := [0, 1]) rfl (by decide))
  replace HB := Lib.hid (show Below w.heap.size w ((w).alloc (.cells #[.int .i64 0, .int .i64 1] 3)) from on2 HB.out ((Below.refl (w).heap.size (w)).alloc (Nat.le_refl _) _))
  go_enter Try.func31, Try.ntmps31
  go_wp2_with fail
  refine (span_any _ _ _ _).mono ?_
  rintro e wa ⟨rfl, hb⟩
  replace HB := Lib.hid (on2 HB.out hb)
  replace HN := Lib.hid (HN.out.below hb)
  clear hb
  go_wp2_with fail
  refine (span_any _ _ _ _).mono ?_
  rintro e wb ⟨rfl, hb⟩
  replace HB := Lib.hid (on2 HB.out hb)
  replace HN := Lib.hid (HN.out.below hb)
  clear hb
  go_wp2_with fail
  have hbn := (Below.refl (wb).heap.size (wb)).alloc (Nat.le_refl _) (.cells #[.int .i64 1, .int .i64 1, .int .i64 0, .int .i64 0, .int .i64 0, .int .i64 4, .int .i64 3, .int .i64 1, .int .i64 0, .int .i64 0, .int .i64 2, .int .i64 3] 50)
  refine (lines_any 0 [0, 1] [((1, 1, 0, 0), 0, 4), ((3, 1, 0, 0), 2, 3)] _ _ _ _ _ _ _ (by decide) rfl rfl (by kernel_rfl) (by kernel_rfl) (wfS_of _ (by kernel_rfl)) (HN.out.below hbn) (isSpans_lit rfl)).mono ?_
  rintro e wc ⟨rfl, hb⟩
  replace HB := Lib.hid (on2 (on2 HB.out hbn) hb)
  clear hb hbn
  go_wp2_with fail
  clear HN
  refine (span_any _ _ _ _).mono ?_
  rintro e wd ⟨rfl, hb⟩
  replace HB := Lib.hid (on2 HB.out hb)
  clear hb
  go_wp2_with fail
  refine (span_any _ _ _ _).mono ?_
  rintro e we ⟨rfl, hb⟩
  replace HB := Lib.hid (on2 HB.out hb)
  clear hb
  go_wp2_with fail
  have hbn := (Below.refl (we).heap.size (we)).alloc (Nat.le_refl _) (.cells #[.int .i64 3, .int .i64 1, .int .i64 0, .int .i64 0, .int .i64 0, .int .i64 4, .int .i64 1, .int .i64 1, .int .i64 0, .int .i64 0, .int .i64 5, .int .i64 6] 50)
  refine (lines_any 270 [] [((3, 1, 0, 0), 0, 4), ((1, 1, 0, 0), 5, 6)] _ _ _ _ _ _ _ (by decide) rfl rfl (by kernel_rfl) (by kernel_rfl) (wfS_of _ (by kernel_rfl)) IsSl.nil (isSpans_lit rfl)).mono ?_
  rintro e wf ⟨rfl, hb⟩
  replace HB := Lib.hid (on2 (on2 HB.out hbn) hb)
  clear hb hbn
  go_wp2_with fail
  have HN := Lib.hid (isInts_lit (w := wf) (cs := #[.int .i64 0, .int .i64 2, .int .i64 1]) (t := 3) (xs := [0, 2, 1]) rfl (by decide))
  replace HB := Lib.hid (show Below w.heap.size w ((wf).alloc (.cells #[.int .i64 0, .int .i64 2, .int .i64 1] 3)) from on2 HB.out ((Below.refl (wf).heap.size (wf)).alloc (Nat.le_refl _) _))
  refine (span_any _ _ _ _).mono ?_
  rintro e wg ⟨rfl, hb⟩
  replace HB := Lib.hid (on2 HB.out hb)
  replace HN := Lib.hid (HN.out.below hb)
  clear hb
  go_wp2_with fail
  refine (span_any _ _ _ _).mono ?_
  rintro e wh ⟨rfl, hb⟩
  replace HB := Lib.hid (on2 HB.out hb)
  replace HN := Lib.hid (HN.out.below hb)
  clear hb
  go_wp2_with fail
  refine (span_any _ _ _ _).mono ?_
  rintro e wi ⟨rfl, hb⟩
  replace HB := Lib.hid (on2 HB.out hb)
  replace HN := Lib.hid (HN.out.below hb)
  clear hb
  go_wp2_with fail
  have hbn := (Below.refl (wi).heap.size (wi)).alloc (Nat.le_refl _) (.cells #[.int .i64 1, .int .i64 1, .int .i64 0, .int .i64 0, .int .i64 0, .int .i64 1, .int .i64 1, .int .i64 1, .int .i64 0, .int .i64 0, .int .i64 2, .int .i64 3, .int .i64 3, .int .i64 1, .int .i64 0, .int .i64 0, .int .i64 1, .int .i64 (-1)] 50)
  refine (lines_any 0 [0, 2, 1] [((1, 1, 0, 0), 0, 1), ((1, 1, 0, 0), 2, 3), ((3, 1, 0, 0), 1, -1)] _ _ _ _ _ _ _ (by decide) rfl rfl (by kernel_rfl) (by kernel_rfl) (wfS_of _ (by kernel_rfl)) (HN.out.below hbn) (isSpans_lit rfl)).mono ?_
  rintro e wj ⟨rfl, hb⟩
  replace HB := Lib.hid (on2 (on2 HB.out hbn) hb)
  clear hb hbn
  go_wp2_with fail
  clear HN
  refine (span_any _ _ _ _).mono ?_
  rintro e wk ⟨rfl, hb⟩
  replace HB := Lib.hid (on2 HB.out hb)
  clear hb
  go_wp2_with fail
  refine (span_any _ _ _ _).mono ?_
  rintro e wl ⟨rfl, hb⟩
  replace HB := Lib.hid (on2 HB.out hb)
  clear hb
  go_wp2_with fail
  have hbn := (Below.refl (wl).heap.size (wl)).alloc (Nat.le_refl _) (.cells #[.int .i64 1, .int .i64 1, .int .i64 0, .int .i64 0, .int .i64 0, .int .i64 1, .int .i64 4, .int .i64 1, .int .i64 0, .int .i64 0, .int .i64 2, .int .i64 3] 50)
  refine (lines_any 270 [] [((1, 1, 0, 0), 0, 1), ((4, 1, 0, 0), 2, 3)] _ _ _ _ _ _ _ (by decide) rfl rfl (by kernel_rfl) (by kernel_rfl) (wfS_of _ (by kernel_rfl)) IsSl.nil (isSpans_lit rfl)).mono ?_
  rintro e wm ⟨rfl, hb⟩
  replace HB := Lib.hid (on2 (on2 HB.out hbn) hb)
  clear hb hbn
  go_wp2_with fail
  have HN := Lib.hid (isInts_lit (w := wm) (cs := #[.int .i64 1, .int .i64 0]) (t := 3) (xs := [1, 0]) rfl (by decide))
  replace HB := Lib.hid (show Below w.heap.size w ((wm).alloc (.cells #[.int .i64 1, .int .i64 0] 3)) from on2 HB.out ((Below.refl (wm).heap.size (wm)).alloc (Nat.le_refl _) _))
  refine (span_any _ _ _ _).mono ?_
  rintro e wn ⟨rfl, hb⟩
  replace HB := Lib.hid (on2 HB.out hb)
  replace HN := Lib.hid (HN.out.below hb)
  clear hb
  go_wp2_with fail
  refine (span_any _ _ _ _).mono ?_
  rintro e wo ⟨rfl, hb⟩
  replace HB := Lib.hid (on2 HB.out hb)
  replace HN := Lib.hid (HN.out.below hb)
  clear hb
  go_wp2_with fail
  have hbn := (Below.refl (wo).heap.size (wo)).alloc (Nat.le_refl _) (.cells #[.int .i64 1, .int .i64 1, .int .i64 0, .int .i64 0, .int .i64 0, .int .i64 2, .int .i64 4, .int .i64 1, .int .i64 0, .int .i64 0, .int .i64 0, .int .i64 5] 50)
  refine (lines_any 0 [1, 0] [((1, 1, 0, 0), 0, 2), ((4, 1, 0, 0), 0, 5)] _ _ _ _ _ _ _ (by decide) rfl rfl (by kernel_rfl) (by kernel_rfl) (wfS_of _ (by kernel_rfl)) (HN.out.below hbn) (isSpans_lit rfl)).mono ?_
  rintro e wp ⟨rfl, hb⟩
  replace HB := Lib.hid (on2 (on2 HB.out hbn) hb)
  clear hb hbn
  go_wp2_with fail
  go_ret
  exact ⟨rfl, HB.out⟩
end Go.Proofs.Ythmkmjoeceghiaa
namespace Go.Proofs.Ythmkmjoeceghiaa
open Go.ChangeShapes Go.WideShapes Go.ChangeAt Go.RowKit Go.Deep

section
variable {H : Type} {enc : TypeId × Value → H} {w : World} {base : Nat} {spare : Nat → Bool} {held : Bool}
set_option maxRecDepth 100000 in
theorem trod_span {n : Nat} {cs : List Value} {x : DataW H × List MemPlace} (h : DataW.trod enc Try.prog w base spare held n 50 cs = some x) : ∃ c : Sp, cs = spCells c ∧ IsI c.1.1 ∧ WfO c.1.2 ∧ IsI c.2.1 ∧ IsI c.2.2 := by
  have hc3 : Try.prog.cellsOf 3 = 1 := by kernel_rfl
  have hc32 : Try.prog.cellsOf 32 = 4 := by kernel_rfl
  have hc50 : Try.prog.cellsOf 50 = 6 := by kernel_rfl
  obtain ⟨xs, m, _, _, hl, hxl, hg⟩ := DataW.trod_struct Try.underlying50 h
  rw [hc50] at hl
  match cs, hl with
  | [c0, c1, c2, c3, c4, c5], _ =>
    have g0 : DataW.trod enc Try.prog w base spare held m 32 (([c0, c1, c2, c3, c4, c5].drop 0).take (Try.prog.cellsOf 32)) = xs[0]? := hg 0 _ rfl
    have g1 : DataW.trod enc Try.prog w base spare held m 3 (([c0, c1, c2, c3, c4, c5].drop 4).take (Try.prog.cellsOf 3)) = xs[1]? := hg 1 _ rfl
    have g2 : DataW.trod enc Try.prog w base spare held m 3 (([c0, c1, c2, c3, c4, c5].drop 5).take (Try.prog.cellsOf 3)) = xs[2]? := hg 2 _ rfl
    rw [hc32] at g0
    rw [hc3] at g1 g2
    rw [List.getElem?_eq_getElem (by rw [hxl]; decide)] at g0 g1 g2
    obtain ⟨d, e0, k0, w0⟩ := trod_deed g0
    obtain ⟨n1, e1, _, w1⟩ := DataW.trod_int Try.underlying3 g1
    obtain ⟨n2, e2, _, w2⟩ := DataW.trod_int Try.underlying3 g2
    simp [ddCells] at e0 e1 e2
    obtain ⟨rfl, rfl, rfl, rfl⟩ := e0
    subst e1 e2
    exact ⟨(d, n1, n2), rfl, k0, w0, wf_int w1, wf_int w2⟩
/-- a history that came in -/
theorem open_spans_arg {a : Option Addr} {len cap : Nat} {d : DataW H} {p : List MemPlace} (hsp : ∀ b, spare b = true) (h : DataW.Trod enc Try.prog w 0 spare held 45 (.slice a len cap) d p) :
    ∃ l : List Sp, l.length = len ∧ IsSpans w a l ∧ WfS l ∧ (∀ x ∈ l, IsI x.1.1 ∧ IsI x.2.1 ∧ IsI x.2.2) ∧ len ≤ cap ∧ cap ≤ maxLen ∧ (a = none → cap = 0) ∧ (a ≠ none → ∃ es sp, d = .slice es sp ∧ es.length + sp.length = cap) := by
  have hc50 : Try.prog.cellsOf 50 = 6 := by kernel_rfl
  obtain ⟨fuel, hf⟩ := h
  rcases open_slice Try.underlying45 hf with ⟨hcs, _⟩ | ⟨x, l, c, m, n, D, Pl, hcs, _, hl, hm, hmm, hx, hi⟩
  · simp [Value.cells] at hcs
    obtain ⟨rfl, rfl, rfl⟩ := hcs
    exact ⟨[], rfl, fun h => absurd rfl h, fun d h => (by cases h), fun d h => (by cases h), Nat.le_refl _, by simp [maxLen], fun _ => rfl, fun h => absurd rfl h⟩
  · simp [Value.cells] at hcs
    obtain ⟨rfl, rfl, rfl⟩ := hcs
    rw [hsp] at hmm
    simp only [if_true] at hmm
    obtain rfl := hmm
    rw [hc50] at hi
    have each : ∀ i, i < m → ∃ e : Sp, (IsI e.1.1 ∧ IsI e.2.1 ∧ IsI e.2.2) ∧ WfO e.1.2 ∧ ∀ j, j < 6 → w.cell? (x.add (i * 6 + j)) = (spCells e)[j]? := fun i him => by
      obtain ⟨cs', hc, ht⟩ := hi i him
      obtain ⟨e, rfl, w1, w2, w3, w4⟩ := trod_span ht
      obtain ⟨_, _, hat⟩ := World.cells?_some hc
      exact ⟨e, ⟨w1, w3, w4⟩, w2, fun j hj => by rw [← Go.Deep.add_add]; exact hat j hj⟩
    let F : Nat → Sp := fun i => if h : i < m then (each i h).choose else ((0, 0, 0, 0), 0, 0)
    have hF : ∀ i, i < m → (IsI (F i).1.1 ∧ IsI (F i).2.1 ∧ IsI (F i).2.2) ∧ WfO (F i).1.2 ∧ ∀ j, j < 6 → w.cell? (x.add (i * 6 + j)) = (spCells (F i))[j]? := fun i hlt => by
      have := (each i hlt).choose_spec
      simp only [F, dif_pos hlt]; exact this
    refine ⟨(List.range len).map F, by simp, fun hne => ?_, fun d hd => ?_, fun d hd => ?_, hl, hm, (fun h => by cases h), fun _ => ⟨_, _, (Prod.mk.inj hx).1, by simp; omega⟩⟩
    · have h0 : 0 < len := by
        rcases Nat.eq_zero_or_pos len with h | h
        · subst h; simp at hne
        · exact h
      have hspot : x.spot = none := by
        have := (hF 0 (by omega)).2.2 0 (by omega)
        have := World.cell?_spot (show w.cell? (x.add (0 * 6 + 0)) = some (.int .i64 (F 0).1.1) from this)
        simpa [Addr.add] using this
      refine ⟨x.block, x.off, by obtain ⟨b, o, s⟩ := x; simp only at hspot; subst hspot; rfl, fun k c hk => ?_⟩
      have hkl : k < len := by
        have := (List.getElem?_eq_some_iff.1 hk).1
        simpa using this
      rw [List.getElem?_map, List.getElem?_range hkl] at hk
      obtain rfl : F k = c := by simpa using hk
      have hat := (hF k (by omega)).2.2
      have at_ : ∀ j v, j < 6 → (spCells (F k))[j]? = some v → w.cell? ⟨x.block, x.off + k * 6 + j, none⟩ = some v := fun j v hj hv => by
        rw [Nat.add_assoc, ← addr_add hspot, hat j hj, hv]
      exact ⟨at_ 0 _ (by omega) rfl, at_ 1 _ (by omega) rfl, at_ 2 _ (by omega) rfl, at_ 3 _ (by omega) rfl, at_ 4 _ (by omega) rfl, at_ 5 _ (by omega) rfl⟩
    · simp only [List.mem_map, List.mem_range] at hd
      obtain ⟨i, hi', rfl⟩ := hd
      exact (hF i (by omega)).2.1
    · simp only [List.mem_map, List.mem_range] at hd
      obtain ⟨i, hi', rfl⟩ := hd
      exact (hF i (by omega)).1
/-- a list of numbers that came in -/
theorem open_nums_arg {a : Option Addr} {len cap : Nat} {d : DataW H} {p : List MemPlace} (hsp : ∀ b, spare b = true) (h : DataW.Trod enc Try.prog w 0 spare held 46 (.slice a len cap) d p) :
    ∃ xs : List Int, xs.length = len ∧ IsSl encI w a xs ∧ (∀ x ∈ xs, IsI x) ∧ len ≤ cap ∧ cap ≤ maxLen ∧ (a = none → cap = 0) := by
  obtain ⟨fuel, hf⟩ := h
  rcases open_ints Try.underlying46 Try.underlying3 (by kernel_rfl) hf with ⟨hcs, _⟩ | ⟨x, l, c, zs, hcs, _, hl, hm, hz, _, hcell, hwz⟩
  · simp [Value.cells] at hcs
    obtain ⟨rfl, rfl, rfl⟩ := hcs
    exact ⟨[], rfl, IsSl.nil, fun x h => (by cases h), Nat.le_refl _, by simp [maxLen], fun _ => rfl⟩
  · simp [Value.cells] at hcs
    obtain ⟨rfl, rfl, rfl⟩ := hcs
    rw [hsp] at hz
    simp only [if_true] at hz
    have hm' : cap ≤ 9223372036854775807 := by unfold maxLen at hm; omega
    have hll : (zs.take len).length = len := by rw [List.length_take]; omega
    refine ⟨zs.take len, hll, ⟨by omega, fun hne => ?_⟩, fun n hn => wf_int (hwz n (List.mem_of_mem_take hn)), hl, hm, fun h => by cases h⟩
    have h0 : 0 < len := by
      rcases Nat.eq_zero_or_pos len with h | h
      · subst h; simp at hne
      · exact h
    have hspot : x.spot = none := by
      have := World.cell?_spot (hcell 0 (by omega))
      simpa [Addr.add] using this
    refine ⟨x.block, x.off, by obtain ⟨b, o, s⟩ := x; simp only at hspot; subst hspot; rfl, fun i v hv => ?_⟩
    rw [List.getElem?_take] at hv
    split at hv
    · have hi := (List.getElem?_eq_some_iff.1 hv).1
      have := hcell i hi
      rw [List.getD_eq_getElem?_getD, hv, addr_add hspot] at this
      exact this
    · cases hv
end
set_option maxRecDepth 100000 in
theorem same30 (d : Nat) (x : Ob) (w : World) : (Op.equalIn (d + 1 + 1) 30 (obV x) (obV x)).run Try.prog w = .ok true w := by
  have u3 := Try.underlying3
  rw [run_equalIn_agg w (d + 1) 30 _ _ (by kernel_rfl) (by kernel_rfl)]
  simp only [Program.fieldsOf, Try.underlying30]
  obtain ⟨x0, x1, x2⟩ := x
  go_simp
set_option maxRecDepth 100000 in
theorem same32 (d : Nat) (x : Dd) (w : World) : (Op.equalIn (d + 1 + 1 + 1) 32 (ddV x) (ddV x)).run Try.prog w = .ok true w := by
  have u3 := Try.underlying3
  have c3 : Try.prog.cellsOf 3 = 1 := by kernel_rfl
  have c30 : Try.prog.cellsOf 30 = 3 := by kernel_rfl
  have h := same30 d x.2 w
  rw [run_equalIn_agg w (d + 1 + 1) 32 _ _ (by kernel_rfl) (by kernel_rfl)]
  simp only [Program.fieldsOf, Try.underlying32]
  obtain ⟨k, x0, x1, x2⟩ := x
  dsimp only at h
  go_simp
set_option maxRecDepth 100000 in
theorem same50 (x : Sp) (w : World) : (Op.equalIn 10000 50 (spV x) (spV x)).run Try.prog w = .ok true w := by
  have u3 := Try.underlying3
  have c3 : Try.prog.cellsOf 3 = 1 := by kernel_rfl
  have c32 : Try.prog.cellsOf 32 = 4 := by kernel_rfl
  have h := same32 9996 x.1 w
  rw [show (10000 : Nat) = 9999 + 1 from rfl, run_equalIn_agg w 9999 50 _ _ (by kernel_rfl) (by kernel_rfl)]
  simp only [Program.fieldsOf, Try.underlying50]
  obtain ⟨⟨k, x0, x1, x2⟩, f, t⟩ := x
  simp only [Nat.reduceAdd] at h
  go_simp
theorem neq50 (x : Sp) (w : World) : (binOp .neq 50 (spV x) (spV x)).run Try.prog w = .ok (.bool false) w := by
  rw [run_neq_struct, same50 x w]; simp [Result.andThen]
end Go.Proofs.Ythmkmjoeceghiaa
