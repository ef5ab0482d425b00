/- Out of a heap. -/
import Derived.Test.YthmkmjoeceghiaaAA
namespace Go.Proofs.Ythmkmjoeceghiaa
open Go.RowKit Go.Shelf Go.Maps

theorem collect_any (Bm M nn : Nat) (hnn : nn ≤ 5000000000000) (S : List Ob) (hS : ∀ o ∈ S, WfO o) (D0 : DataW Unit) (hD : ∀ o, WfO o → Maps.has D0 (kl o) = decide (o ∈ S)) (w : World)
    (hB : Bm < w.heap.size) (hm : w.cell? ⟨Bm, 0, none⟩ = some (.map (some M))) (hown : w.ownsMap Try.prog 30 (unitElem (H := Unit)) M nn D0) :
    Calls Try.prog 69 #[.func (.func 71) #[] #[.pointer (some ⟨Bm, 0, none⟩)]] w fun e W' => ∃ (v : Value) (ys : List Ob), e = .returned v ∧ (ys.Nodup ∧ ∀ o, o ∈ ys ↔ o ∈ S) ∧ W'.ownsRow w.heap.size 30 3 v ys.length (ys.flatMap obCells) ∧ Below w.heap.size w W' := by
  have happ := callsIn_wide.1 (append_in Fence.wide 10 trivial trivial rfl (by omega) Bm M nn hnn S hS D0 hD w hB hm hown)
  clear hown hm
  go_enter Try.func69, Try.ntmps69
  go_wp2_with fail
  refine happ.mono ?_
  rintro e w1 ⟨v, ys, rfl, hv⟩
  clear happ
  go_wp2_with fail
  go_ret
  exact ⟨v, ys, rfl, hv⟩
set_option maxHeartbeats 400000 in
theorem keys_any (M : Nat) (w : World) : Calls Try.prog 50 #[.map (some M)] w fun e w' => e = .returned (.func (.func 71) #[] #[.pointer (some ⟨w.heap.size, 0, none⟩)]) ∧ w' = w.alloc (.cells #[.map (some M)] 42) := by
  go_enter Try.func50, Try.ntmps50
  go_wp2_with fail
  go_ret
  exact ⟨rfl, rfl⟩
theorem sort_any (w : World) (base n g cap : Nat) (ys : List Ob) (hO : w.ownsRow base 30 3 (.slice (some ⟨g, 0, none⟩) n cap) n (ys.flatMap obCells)) (hl : ys.length = n) (hn : n < 4611686018427387904) :
    Calls Try.prog 70 #[.slice (some ⟨g, 0, none⟩) n cap, .func (.func 51) #[] #[]] w fun e w' => e = .returned (.tuple #[]) ∧ ∃ m os, w' = sortWorldK obCells 3 w g 0 m (ys.mergeSort fun x y => !(ahead y x)).toArray os := by
  have hH := owns_holds hO hl
  have hg : g < w.heap.size := (hO.lt g rfl).2
  have h := AnyQ.slices_SortFunc_total sortOb 3 Try.isAgg30 Try.sizeOf30 obCells (fun _ => rfl) (fun x v hv => by simp [obCells] at hv; rcases hv with rfl | rfl | rfl <;> rfl) cmpO swoOb 51 #[] g 0 cap ys.toArray w
    (enters_of Try.func51 (by kernel_rfl) rfl) (fun _ _ _ _ x y => closure_any x y _) hH hg (by simpa [hl] using hn) (fun x y h1 h2 => by rw [ltOb] at h1 h2; exact ahead_tot h1 h2)
  rw [ltOb] at h
  simp only [List.size_toArray, hl] at h
  exact h
theorem sort_none (p : Option Addr) (cap : Nat) (w : World) : Calls Try.prog 70 #[.slice p 0 cap, .func (.func 51) #[] #[]] w fun e w' => e = .returned (.tuple #[]) ∧ w' = w :=
  AnyF.slices_SortFunc_none sortOb p cap _ w
set_option maxRecDepth 100000 in
set_option maxHeartbeats 1000000 in
theorem sorted_any (Bm M nn : Nat) (hnn : nn ≤ 5000000000000) (S : List Ob) (hU : Up S) (hSn : S.length ≤ 5000000000000) (hS : ∀ o ∈ S, WfO o) (D0 : DataW Unit) (hD : ∀ o, WfO o → Maps.has D0 (kl o) = decide (o ∈ S)) (w : World)
    (hB : Bm < w.heap.size) (hm : w.cell? ⟨Bm, 0, none⟩ = some (.map (some M))) (hown : w.ownsMap Try.prog 30 (unitElem (H := Unit)) M nn D0) :
    Calls Try.prog 49 #[.func (.func 71) #[] #[.pointer (some ⟨Bm, 0, none⟩)], .func (.func 51) #[] #[]] w fun e W' => ∃ v, e = .returned v ∧ W'.ownsRow w.heap.size 30 3 v S.length (S.flatMap obCells) ∧ Below w.heap.size w W' := by
  have hcol := collect_any Bm M nn hnn S hS D0 hD w hB hm hown
  clear hown hm
  go_enter Try.func49, Try.ntmps49
  go_wp2_with fail
  refine hcol.mono ?_
  rintro e w1 ⟨v, ys, rfl, ⟨hnd, hmem⟩, hO, hb⟩
  clear hcol
  have hso := sort_up hU hnd hmem
  have hlen : ys.length = S.length := by rw [← hso, List.length_mergeSort]
  obtain ⟨a, cap, rfl, h1, h2⟩ := owns_form hO
  have BB := Lib.hid hb
  by_cases h0 : ys.length = 0
  · have hs := sort_none a cap w1
    have hyn : ys = [] := List.eq_nil_of_length_eq_zero h0
    have hSn : S = [] := List.eq_nil_of_length_eq_zero (by omega)
    subst hyn hSn
    have OO := Lib.hid hO
    clear hO hb hso hmem hnd hlen
    go_wp2_with fail
    refine hs.mono ?_
    rintro e w2 ⟨rfl, rfl⟩
    clear hs
    go_wp2_with fail
    go_ret
    exact ⟨_, rfl, OO.out, BB.out⟩
  · obtain ⟨g, c, hform, hg1, hg2⟩ := hO.form (by omega)
    obtain ⟨rfl, rfl⟩ : a = some ⟨g, 0, none⟩ ∧ cap = c := by injection hform with h1 _ h3; exact ⟨h1, h3⟩
    have hs := sort_any w1 _ _ g cap ys hO rfl (by omega)
    rw [hso] at hs
    have OO := Lib.hid hO
    have HL := Lib.hid hlen
    clear hO hb hso hmem hnd hlen hform
    go_wp2_with fail
    refine hs.mono ?_
    rintro e w2 ⟨rfl, m, os, rfl⟩
    clear hs
    have hfin := sort_owns (m := m) (os := os) (zs := S) OO.out HL.out.symm
    rw [HL.out] at hfin
    generalize sortWorldK obCells 3 w1 g 0 m S.toArray os = w2 at *
    rw [HL.out]
    go_wp2_with fail
    go_ret
    exact ⟨_, rfl, hfin.1, BB.out.trans hfin.2⟩
theorem upNil : Up [] := List.Pairwise.nil
set_option maxRecDepth 100000 in
set_option maxHeartbeats 1000000 in
theorem out_any (B M n : Nat) (S : List Ob) (w : World) (h : Hp w B M n S) (hU : Up S) (hn : n ≤ 5000000000000) (hSn : S.length ≤ 5000000000000) :
    Calls Try.prog 23 #[.pointer (some ⟨B, 0, none⟩)] w fun e W' => ∃ v, e = .returned v ∧ W'.ownsRow w.heap.size 30 3 v S.length (S.flatMap obCells) ∧ Below w.heap.size w W' := by
  obtain ⟨D, hD, hh⟩ := h.map
  have hb1 : Below w.heap.size w (w.alloc (.cells #[.map (some M)] 42)) := (Below.refl _ w).alloc (Nat.le_refl _) _
  have hso := sorted_any w.heap.size M n hn S hU hSn h.wf D hh (w.alloc (.cells #[.map (some M)] 42)) (by simp) (by simp) (hD.kept (grown_of_below hb1 none) (by simp))
  have hk := keys_any M w
  have c0 := h.bB.cell (i := 0) rfl
  simp at c0
  have hno := none_any B M n S w h
  clear h hD hh
  go_enter Try.func23, Try.ntmps23
  go_wp2_with fail
  refine hno.mono ?_
  rintro e w1 ⟨rfl, rfl⟩
  clear hno
  go_wp2_with fail
  refine hk.mono ?_
  rintro e w1 ⟨rfl, rfl⟩
  clear hk
  go_wp2_with fail
  refine hso.mono ?_
  rintro e w1 ⟨v, rfl, hO, hb⟩
  clear hso
  have HO := Lib.hid (owns_mono hO (base' := w.heap.size) (by simp))
  have HB := Lib.hid (on2 hb1 hb)
  clear hO hb hb1
  go_wp2_with fail
  go_ret
  exact ⟨v, rfl, HO.out, HB.out⟩
/-- how many of a cache -/
def manyL (S : List Ob) (c : Int) : Nat := (S.filter fun o => decide (o.1 = c)).length
theorem manyL_le (S : List Ob) (c : Int) : manyL S c ≤ S.length := List.length_filter_le _ _
theorem manyL_perm {S T : List Ob} (hn : S.Nodup) (ht : T.Nodup) (hm : ∀ o, o ∈ S ↔ o ∈ T) (c : Int) : manyL S c = manyL T c :=
  (((List.perm_ext_iff_of_nodup hn ht).2 hm).filter _).length_eq
theorem manyL_snoc (S : List Ob) (o : Ob) (c : Int) : manyL (S ++ [o]) c = manyL S c + if o.1 = c then 1 else 0 := by
  unfold manyL
  rw [List.filter_append, List.length_append]
  by_cases e : o.1 = c <;> simp [e]
end Go.Proofs.Ythmkmjoeceghiaa
