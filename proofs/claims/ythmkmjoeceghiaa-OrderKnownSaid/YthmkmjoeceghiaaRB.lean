/- Holds: which calls are in the order; the latest beginning. The walk over the program's Holds. The walk over the reference's Holds. The walk over the reference's Holds. -/
import Derived.Test.YthmkmjoeceghiaaPZ
import Derived.Test.YthmkmjoeceghiaaPB
import Derived.Test.YthmkmjoeceghiaaOA
import Derived.Test.YthmkmjoeceghiaaQE
import Derived.Maps.Views
import Derived.Test.YthmkmjoeceghiaaPC
import Derived.Test.YthmkmjoeceghiaaPE
import Derived.Test.YthmkmjoeceghiaaPF
namespace Go.Proofs.Ythmkmjoeceghiaa
open Go.RowKit Go.ChangeMaps

attribute [local go_sem ↓] Go.wp_at_zero Go.wp_at_succ
/-- is o an order of the history l? -/
def holdsB (l : List Sp) (o : List Int) : Bool := decide (chk l = 0) && ordFrom l [] [] o
def latF (l : List Sp) (out : List Nat) : Int := out.foldl (fun m j => max m (sp l j).2.1) (-1)
theorem latF_add (l : List Sp) (out : List Nat) (k : Nat) : latF l (out ++ [k]) = max (latF l out) (sp l k).2.1 := by unfold latF; rw [List.foldl_append]; rfl
theorem lat_from (l : List Sp) (t : Int) : ∀ (out : List Nat) (m : Int), (t < out.foldl (fun m j => max m (sp l j).2.1) m ↔ t < m ∨ ∃ j ∈ out, t < (sp l j).2.1)
  | [], m => by simp
  | k :: out, m => by
    rw [List.foldl_cons, lat_from l t out]
    constructor
    · rintro (h | ⟨j, hj, h⟩)
      · by_cases h1 : t < m
        · exact .inl h1
        · exact .inr ⟨k, by simp, by omega⟩
      · exact .inr ⟨j, by simp [hj], h⟩
    · rintro (h | ⟨j, hj, h⟩)
      · exact .inl (by omega)
      · rcases List.mem_cons.1 hj with rfl | hj
        · exact .inl (by omega)
        · exact .inr ⟨j, hj, h⟩
theorem lat_all (l : List Sp) (out : List Nat) (k : Nat) : (out.all fun j => !lateB l k j) = !(decide (0 ≤ (sp l k).2.2) && decide ((sp l k).2.2 < latF l out)) := by
  rw [Bool.eq_iff_iff]
  simp only [List.all_eq_true, Bool.not_eq_true', Bool.and_eq_false_iff, decide_eq_false_iff_not]
  have h := lat_from l (sp l k).2.2 out (-1)
  constructor
  · intro ha
    by_cases h0 : 0 ≤ (sp l k).2.2
    · refine .inr fun h1 => ?_
      rcases h.1 h1 with h2 | ⟨j, hj, h2⟩
      · omega
      · have := ha j hj
        rw [Bool.eq_false_iff] at this
        exact this ((lateB_iff l k j).2 ⟨h0, h2⟩)
    · exact .inl h0
  · intro ha j hj
    rw [Bool.eq_false_iff]
    intro hl
    obtain ⟨h1, h2⟩ := (lateB_iff l k j).1 hl
    exact ha.elim (fun h => h h1) (fun h' => h' (h.2 (.inr ⟨j, hj, h2⟩)))
theorem law3 : Maps.Keyed Try.prog 3 := Maps.int_keyed Try.underlying3
set_option maxRecDepth 100000 in
theorem zero3 (w : World) : (zeroValue 3).run Try.prog w = .ok (.int .i64 0) w := by kernel_rfl
abbrev ki (i : Nat) : Lit := .int .i64 i
theorem isKi (i : Nat) : WideAt.IsKeyLit (ki i) := trivial
theorem ki_inj {i j : Nat} (h : ki i = ki j) : i = j := by injection h with _ h; exact Int.ofNat.inj h
theorem key3 {i : Nat} (h : i ≤ 9223372036854775807) : keyOf Try.prog 3 (.int .i64 i) = some (ki i) :=
  Maps.keyOf_int_mk Try.underlying3 (lit_wf (show IsI (i : Int) from ⟨by omega, by omega⟩))
/-- an element reads as itself -/
def valH (v : Value) : Option (DataW Value × List MemPlace) := some (.held v, [])
def bit (out : List Nat) (i : Nat) : Int := if i ∈ out then 1 else 0
/-- the map in: which calls are in the order -/
def InMap (w : World) (Mb n : Nat) (out : List Nat) : Prop := ∃ D, w.ownsMap Try.prog 3 valH Mb n D ∧ ∀ i : Nat, D.atKey (ki i) (.held (.int .i64 0)) = .held (.int .i64 (bit out i))
theorem InMap.lt {w : World} {Mb n : Nat} {out : List Nat} (h : InMap w Mb n out) : Mb < w.heap.size := by obtain ⟨D, hD, _⟩ := h; exact hD.lt
theorem InMap.at {w w' : World} {Mb n : Nat} {out : List Nat} (h : InMap w Mb n out) (e : w'.heap[Mb]? = w.heap[Mb]?) : InMap w' Mb n out := by
  obtain ⟨D, ⟨es, cl, hb, r⟩, h2⟩ := h
  exact ⟨D, ⟨es, cl, e.trans hb, r⟩, h2⟩
theorem InMap.below {w w' : World} {Mb n : Nat} {out : List Nat} (h : InMap w Mb n out) (hb : Below w.heap.size w w') : InMap w' Mb n out := h.at (hb.block Mb h.lt)
theorem InMap.grown {w w' : World} {Mb n : Nat} {out : List Nat} {row : Option Nat} (h : InMap w Mb n out) (hg : w.grownBy w' row) (hne : some Mb ≠ row) : InMap w' Mb n out := h.at (hg.block Mb h.lt hne)
theorem in_look {w : World} {Mb n : Nat} {out : List Nat} (h : InMap w Mb n out) {i : Nat} (hi : i ≤ 9223372036854775807) : (Instr.lookup 92 (.map (some Mb)) (.int .i64 i) false).run Try.prog w = .ok (.int .i64 (bit out i)) w := by
  obtain ⟨D, hD, hh⟩ := h
  obtain ⟨v, ps, hr, hv⟩ := hD.lookup law3 Try.underlying92 (zero3 w) (zd := .held (.int .i64 0)) (zp := []) rfl (key3 hi)
  rw [hh i] at hv
  simp only [valH, Option.some.injEq, Prod.mk.injEq, DataW.held.injEq] at hv
  rw [hr, hv.1]
theorem in_put {w : World} {Mb n : Nat} {out : List Nat} (h : InMap w Mb n out) {i : Nat} (hi : i ≤ 9223372036854775807) (hn : n < maxLen) : ∃ w', (Instr.mapUpdate 92 (.map (some Mb)) (.int .i64 i) (.int .i64 1)).run Try.prog w = .ok () w' ∧ InMap w' Mb (n + 1) (out ++ [i]) ∧ w.grownBy w' (some Mb) := by
  obtain ⟨D, hD, hh⟩ := h
  obtain ⟨w', hr, ho, hg⟩ := hD.update law3 Try.underlying92 hn (val := .int .i64 1) (d := .held (.int .i64 1)) (ps := []) (key3 hi) rfl
  refine ⟨w', hr, ⟨_, ho, fun j => ?_⟩, hg⟩
  by_cases e : j = i
  · subst e
    rw [Maps.atKey_put_same hD.isMap (isKi _)]
    simp [bit]
  · rw [Maps.atKey_put_other (fun h => e (ki_inj h)), hh j]
    simp [bit, e]
theorem in_made (w : World) : InMap (w.alloc (.map #[] 0)) w.heap.size 0 [] := ⟨_, World.ownsMap_made w Try.prog 3 valH, fun i => rfl⟩
theorem ord_bad {l : List Sp} {out : List Nat} {S : List Ob} {k : Int} {o : List Int} (h : nowB l out S k = false) : ordFrom l out S (k :: o) = false := by unfold ordFrom; rw [h]; rfl
theorem ord_good {l : List Sp} {out : List Nat} {S : List Ob} {k : Nat} {o : List Int} (h : nowB l out S k = true) : ordFrom l out S ((k : Int) :: o) = ordFrom l (out ++ [k]) (doS S (sp l k).1) o := by
  conv => lhs; unfold ordFrom
  rw [h]; rfl
theorem now_eq (l : List Sp) (out : List Nat) (S : List Ob) (k : Nat) (h : k < l.length) : nowB l out S k = (decide (k ∉ out) && decide (doE S (sp l k).1 = 0) && out.all fun j => !lateB l k j) := by
  unfold nowB
  rw [decide_eq_true (show (0 : Int) ≤ (k : Int) by omega), decide_eq_true (show (k : Int) < (l.length : Int) by omega)]; simp
theorem now_out {l : List Sp} {out : List Nat} {S : List Ob} {k : Int} (h : k < 0 ∨ (l.length : Int) ≤ k) : nowB l out S k = false := by
  unfold nowB
  rcases h with h | h
  · rw [decide_eq_false (show ¬ (0 : Int) ≤ k by omega)]; rfl
  · rw [decide_eq_false (show ¬ k < (l.length : Int) by omega)]; simp
/-- the state of Holds -/
structure Hq (l : List Sp) (w : World) (hB hM Mb : Nat) (out : List Nat) (S : List Ob) (wr : World) : Prop where
  h : Hp wr hB hM out.length S
  in_ : InMap wr Mb out.length out
  below : Below w.heap.size w wr
  nd : out.Nodup
  lt : ∀ j ∈ out, j < l.length
  wM : w.heap.size ≤ hM
  wb : w.heap.size ≤ Mb
  ne : hM ≠ Mb
section
variable {l : List Sp} {w : World} {hB hM Mb : Nat} {out : List Nat} {S : List Ob} {wr w' : World}
theorem Hq.below' (h : Hq l w hB hM Mb out S wr) (hb : Below wr.heap.size wr w') : Hq l w hB hM Mb out S w' :=
  { h with h := h.h.below hb, in_ := h.in_.below hb, below := on2 h.below hb }
theorem Hq.len (h : Hq l w hB hM Mb out S wr) : out.length ≤ l.length := nodup_len _ _ h.nd h.lt
theorem Hq.did (h : Hq l w hB hM Mb out S wr) {S' : List Ob} (hg : wr.grownBy w' (some hM)) : InMap w' Mb out.length out ∧ Below w.heap.size w w' :=
  ⟨h.in_.grown hg (by simpa using Ne.symm h.ne), h.below.grown hg h.below.size (fun g e => by cases e; exact h.wM)⟩
theorem Hp.ofMap {w w' : World} {B M n Mb : Nat} {S : List Ob} (h : Hp w B M n S) (hg : w.grownBy w' (some Mb)) (hB : B ≠ Mb) (hM : M ≠ Mb) : Hp w' B M n S := h.grownX hB hM hg
/-- call k is done, and marked -/
theorem Hq.step (h : Hq l w hB hM Mb out S wr) {k : Nat} (hk : k < l.length) (hko : k ∉ out) {w1 w2 : World} (hH : Hp w1 hB hM (out.length + 1) (doS S (sp l k).1)) (hg : wr.grownBy w1 (some hM)) (hI : InMap w2 Mb (out.length + 1) (out ++ [k])) (hg2 : w1.grownBy w2 (some Mb)) :
    Hq l w hB hM Mb (out ++ [k]) (doS S (sp l k).1) w2 := by
  have b1 := h.below.grown hg h.below.size (fun g e => by cases e; exact h.wM)
  refine ⟨?_, by simpa using hI, b1.grown hg2 b1.size (fun g e => by cases e; exact h.wb), ?_, ?_, h.wM, h.wb, h.ne⟩
  · rw [List.length_append, List.length_singleton]
    refine hH.grownX (fun e => ?_) h.ne hg2
    obtain ⟨D, ⟨es, cl, hb, _⟩, _⟩ := h.in_
    have := h.h.bB
    unfold Blk at this
    rw [e, hb] at this
    cases this
  · exact List.nodup_append.2 ⟨h.nd, by simp, fun a ha b hb => by
      obtain rfl : b = k := by simpa using hb
      rintro rfl; exact hko ha⟩
  · intro j hj
    rcases List.mem_append.1 hj with h1 | h1
    · exact h.lt j h1
    · obtain rfl : j = k := by simpa using h1
      exact hk
end
end Go.Proofs.Ythmkmjoeceghiaa
namespace Go.Proofs.Ythmkmjoeceghiaa
open Go.RowKit

attribute [local go_sem ↓] Go.wp_at_zero Go.wp_at_succ
def HoldsIs (l : List Sp) (o : List Int) (w : World) (e : Ending) (w' : World) : Prop := e = .returned (.bool (holdsB l o)) ∧ Below w.heap.size w w'
theorem holds_no {l : List Sp} (o : List Int) (h : chk l ≠ 0) : holdsB l o = false := by unfold holdsB; rw [decide_eq_false h]; rfl
theorem holds_yes {l : List Sp} (o : List Int) (h : chk l = 0) : holdsB l o = ordFrom l [] [] o := by unfold holdsB; rw [decide_eq_true h]; rfl
theorem end_no {l : List Sp} {out : List Nat} {i : Nat} (hi : i < l.length) (h1 : 0 ≤ (sp l i).2.2) (h2 : i ∉ out) : endB l out = false := by
  rw [Bool.eq_false_iff, ne_eq, endB_iff]
  exact fun h => h2 (h i hi h1)
set_option maxRecDepth 100000 in
set_option maxHeartbeats 8000000 in
theorem holds_any (l : List Sp) (o : List Int) (a c : Option Addr) (cap kc : Nat) (w : World) (hl : l.length ≤ 5000000000000) (hw : WfS l) (hI : IsSpans w a l) (hO : IsSl encI w c o) :
    Calls Try.prog 32 #[.slice a l.length cap, .slice c o.length kc] w (HoldsIs l o w) := by
  have HI := Lib.hid hI
  have HO := Lib.hid hO
  have HWF := Lib.hid (show ∀ i, i < l.length → WfO (sp l i).1.2 from fun i hi => by
    rw [sp_at (List.getElem?_eq_getElem hi)]; exact hw _ (List.getElem_mem hi))
  have hck := check_any l a cap w (by omega) hI
  have hmm := @run_makeMap Try.prog
  have hol := hO.len
  clear hI hw hO
  by_cases h0 : chk l = 0
  · rw [h0] at hck
    have hl256 := (chk_zero h0).1
    have H0 := Lib.hid (holds_yes o h0)
    clear h0
    go_enter Try.func32, Try.ntmps32
    go_wp2_with fail
    refine hck.mono ?_
    rintro e w1 ⟨rfl, hb⟩
    have B1 := Lib.hid hb
    have IM := Lib.hid (in_made w1)
    have B2 := Lib.hid (show Below w.heap.size w (w1.alloc (.map #[] 0)) from B1.out.alloc B1.out.size _)
    have hs1 := B1.out.size
    clear hb hck
    go_wp2_with fail
    refine (new_any _).mono ?_
    rintro e w3 ⟨rfl, hH, hb⟩
    have hsz : (w1.alloc (.map #[] 0)).heap.size = w1.heap.size + 1 := by simp
    rw [hsz] at hH
    have HQ := Lib.hid (show Hq l w (w1.heap.size + 1 + 1) (w1.heap.size + 1) w1.heap.size [] [] w3 from
      ⟨hH, IM.out.below hb, on2 B2.out hb, by simp, by simp, by omega, hs1, by omega⟩)
    clear hH hb IM B2 B1 hsz
    go_wp2_with fail
    clear hmm
    generalize w1.heap.size + 1 + 1 = hB at *
    generalize w1.heap.size + 1 = hM at *
    generalize w1.heap.size = Mb at *
    clear hs1
    go_loopw [7, 19] (fun lv jv wr => ∃ (j : Nat) (out : List Nat) (S : List Ob), j ≤ o.length ∧ jv = .int .i64 j ∧ lv = .int .i64 (latF l out) ∧ ordFrom l [] [] o = ordFrom l out S (o.drop j) ∧ Hq l w hB hM Mb out S wr) (fun _ jv _ => o.length - (intOf jv).toNat)
    case atStart => exact ⟨0, [], [], Nat.zero_le _, rfl, rfl, by rw [List.drop_zero], HQ.out⟩
    case round =>
      clear HQ
      obtain ⟨j, out, S, hj, rfl, rfl, hE, hL⟩ := hrel
      have HE := Lib.hid hE
      have LL := Lib.hid hL
      clear hE hL
      by_cases hlt : j < o.length
      · obtain ⟨bo, oo, k, rfl, hx, ce⟩ := (HO.out.below LL.out.below).at hlt
        have HD := Lib.hid (show o.drop j = k :: o.drop (j + 1) by
          obtain ⟨h1, h2⟩ := List.getElem?_eq_some_iff.1 hx
          rw [List.drop_eq_getElem_cons h1, h2])
        have j0 : (0 : Int) ≤ (j : Int) := by omega
        have j1 : (j : Int) < (o.length : Int) := by omega
        clear hx
        by_cases hk0 : k < 0
        · have HF := Lib.hid (show holdsB l o = false by rw [H0.out, HE.out, HD.out, ord_bad (now_out (.inl hk0))])
          go_wp2_with fail
          go_ret
          exact ⟨retB HF.out.symm, LL.out.below⟩
        · obtain ⟨n, rfl⟩ : ∃ n : Nat, k = n := ⟨k.toNat, by omega⟩
          by_cases hk1 : n < l.length
          · have e0 : decide ((n : Int) < 0) = false := by simp
            have e1 : decide (l.length ≤ n) = false := by simp; omega
            have n0 : (0 : Int) ≤ (n : Int) := by omega
            have n1 : (n : Int) < (l.length : Int) := by omega
            have lk := in_look LL.out.in_ (i := n) (by omega)
            by_cases hin : n ∈ out
            · have HF := Lib.hid (show holdsB l o = false by rw [H0.out, HE.out, HD.out, ord_bad (by rw [now_eq l out S n hk1, decide_eq_false (fun h => h hin)]; rfl)])
              rw [show bit out n = 1 by simp [bit, hin]] at lk
              clear hin hk0
              go_wp2_with fail
              go_ret
              exact ⟨retB HF.out.symm, LL.out.below⟩
            · rw [show bit out n = 0 by simp [bit, hin]] at lk
              obtain ⟨g, off, rfl⟩ := HI.out.form (by omega)
              obtain ⟨d0, d1, d2, d3, d4, d5⟩ := (HI.out.below LL.out.below).at hk1
              have hdo := do_any hB hM out.length S (sp l n).1 wr LL.out.h (HWF.out n hk1) (by have := LL.out.len; unfold maxLen; omega)
              have HIN := Lib.hid hin
              obtain ⟨E, hE⟩ : ∃ E, E = doE S (sp l n).1 := ⟨_, rfl⟩
              rw [← hE] at hdo
              have HDE := Lib.hid hE
              clear hin hE hk0
              by_cases hE0 : E = 0
              · subst hE0
                obtain ⟨t, ht⟩ : ∃ t, t = (sp l n).2.2 := ⟨_, rfl⟩
                obtain ⟨lt, hlt2⟩ : ∃ x, x = latF l out := ⟨_, rfl⟩
                have HN := Lib.hid (show nowB l out S n = !(decide (0 ≤ t) && decide (t < lt)) by
                  rw [now_eq l out S n hk1, decide_eq_true HIN.out, decide_eq_true HDE.out.symm, lat_all, ← ht, ← hlt2]; rfl)
                rw [← hlt2]
                have HT := Lib.hid ht
                have HLT := Lib.hid hlt2
                clear ht hlt2
                by_cases hb : 0 ≤ t ∧ t < lt
                · obtain ⟨hb1, hb2⟩ := hb
                  have HF := Lib.hid (show holdsB l o = false by
                    rw [H0.out, HE.out, HD.out, ord_bad]
                    rw [HN.out, decide_eq_true hb1, decide_eq_true hb2]; rfl)
                  go_wp2_with fail
                  refine hdo.mono ?_
                  rintro e w4 ⟨rfl, hH4, hg4⟩
                  have B4 := Lib.hid (LL.out.did hg4 (S' := [])).2
                  clear hH4 hg4 hdo d0 d1 d2 d3 d4 d5
                  obtain ⟨-, -, -, -, -, d5⟩ := (HI.out.below B4.out).at hk1
                  rw [← HT.out] at d5
                  go_wp2_with fail
                  go_ret
                  exact ⟨retB HF.out.symm, B4.out⟩
                · have HG := Lib.hid (show ordFrom l [] [] o = ordFrom l (out ++ [n]) (doS S (sp l n).1) (o.drop (j + 1)) by
                    rw [HE.out, HD.out, ord_good]
                    rw [HN.out]
                    by_cases h1 : 0 ≤ t
                    · rw [decide_eq_false (show ¬ t < lt from fun h2 => hb ⟨h1, h2⟩)]; simp
                    · rw [decide_eq_false h1]; rfl)
                  by_cases h1 : 0 ≤ t
                  · have h2 : decide (t < lt) = false := by simp; omega
                    clear hb
                    go_wp2_with fail
                    refine hdo.mono ?_
                    rintro e w4 ⟨rfl, hH4, hg4⟩
                    have H4 := Lib.hid hH4
                    have G4 := Lib.hid hg4
                    have D4 := Lib.hid (LL.out.did hg4 (S' := []))
                    clear hH4 hg4 hdo d0 d1 d2 d3 d4 d5 lk
                    obtain ⟨-, -, -, -, d4, d5⟩ := (HI.out.below D4.out.2).at hk1
                    rw [← HT.out] at d5
                    obtain ⟨w5, hput, hI5, hg5⟩ := in_put D4.out.1 (i := n) (by omega) (by have := LL.out.len; unfold maxLen; omega)
                    have LN := Lib.hid (LL.out.step hk1 HIN.out H4.out G4.out hI5 hg5)
                    obtain ⟨-, -, -, -, d6, -⟩ := (HI.out.below LN.out.below).at hk1
                    obtain ⟨fr, hfr⟩ : ∃ x, x = (sp l n).2.1 := ⟨_, rfl⟩
                    rw [← hfr] at d6 d4
                    have HM := Lib.hid (show latF l (out ++ [n]) = max lt fr by rw [latF_add, ← HLT.out, ← hfr])
                    clear hfr hI5 hg5
                    go_wp2_with fail
                    clear hput d4 d5 d6
                    go_roundw
                    case rel => exact ⟨j + 1, out ++ [n], _, by omega, by go_num, by rw [HM.out], HG.out, LN.out⟩
                    case measure => simp [intOf]; omega
                  · have h2 : decide (0 ≤ t) = false := by simp; omega
                    clear hb h1
                    go_wp2_with fail
                    refine hdo.mono ?_
                    rintro e w4 ⟨rfl, hH4, hg4⟩
                    have H4 := Lib.hid hH4
                    have G4 := Lib.hid hg4
                    have D4 := Lib.hid (LL.out.did hg4 (S' := []))
                    clear hH4 hg4 hdo d0 d1 d2 d3 d4 d5 lk
                    obtain ⟨-, -, -, -, d4, d5⟩ := (HI.out.below D4.out.2).at hk1
                    rw [← HT.out] at d5
                    obtain ⟨w5, hput, hI5, hg5⟩ := in_put D4.out.1 (i := n) (by omega) (by have := LL.out.len; unfold maxLen; omega)
                    have LN := Lib.hid (LL.out.step hk1 HIN.out H4.out G4.out hI5 hg5)
                    obtain ⟨-, -, -, -, d6, -⟩ := (HI.out.below LN.out.below).at hk1
                    obtain ⟨fr, hfr⟩ : ∃ x, x = (sp l n).2.1 := ⟨_, rfl⟩
                    rw [← hfr] at d6 d4
                    have HM := Lib.hid (show latF l (out ++ [n]) = max lt fr by rw [latF_add, ← HLT.out, ← hfr])
                    clear hfr hI5 hg5
                    go_wp2_with fail
                    clear hput d4 d5 d6
                    go_roundw
                    case rel => exact ⟨j + 1, out ++ [n], _, by omega, by go_num, by rw [HM.out], HG.out, LN.out⟩
                    case measure => simp [intOf]; omega
              · have e2 : (E != 0) = true := by simpa using hE0
                have HF := Lib.hid (show holdsB l o = false by
                  rw [H0.out, HE.out, HD.out, ord_bad]
                  rw [now_eq l out S n hk1, decide_eq_false (show ¬ doE S (sp l n).1 = 0 by rw [← HDE.out]; exact hE0)]; simp)
                clear hE0
                go_wp2_with fail
                refine hdo.mono ?_
                rintro e w4 ⟨rfl, hH4, hg4⟩
                have B4 := Lib.hid (LL.out.did hg4 (S' := [])).2
                clear hH4 hg4 hdo d0 d1 d2 d3 d4 d5
                go_wp2_with fail
                go_ret
                exact ⟨retB HF.out.symm, B4.out⟩
          · have e0 : decide ((n : Int) < 0) = false := by simp
            have e1 : (l.length : Int) ≤ (n : Int) := by omega
            have HF := Lib.hid (show holdsB l o = false by rw [H0.out, HE.out, HD.out, ord_bad (now_out (.inr e1))])
            go_wp2_with fail
            go_ret
            exact ⟨retB HF.out.symm, LL.out.below⟩
      · obtain rfl : j = o.length := by omega
        have HZ := Lib.hid (show holdsB l o = endB l out by rw [H0.out, HE.out, List.drop_length]; rfl)
        go_wp2_with fail
        generalize latF l out = lt at *
        generalize wr = W at *
        have hlo := LL.out.len
        go_loopw [76] (fun iv wr => ∃ i : Nat, i ≤ l.length ∧ iv = .int .i64 i ∧ (∀ x, x < i → 0 ≤ (sp l x).2.2 → x ∈ out) ∧ Below W.heap.size W wr) (fun iv _ => l.length - (intOf iv).toNat)
        case atStart => exact ⟨0, Nat.zero_le _, rfl, fun x hx => absurd hx (Nat.not_lt_zero _), Below.refl _ _⟩
        case round =>
          obtain ⟨i, hi', rfl, hA, hB'⟩ := hrel
          have AA := Lib.hid hA
          have BB := Lib.hid hB'
          clear hA hB'
          by_cases hlt : i < l.length
          · obtain ⟨g, off, rfl⟩ := HI.out.form (by omega)
            obtain ⟨d0, d1, d2, d3, d4, d5⟩ := (HI.out.below (on2 LL.out.below BB.out)).at hlt
            have i0 : (0 : Int) ≤ (i : Int) := by omega
            have i1 : (i : Int) < (l.length : Int) := by omega
            obtain ⟨t, ht⟩ : ∃ t, t = (sp l i).2.2 := ⟨_, rfl⟩
            rw [← ht] at d5
            have HT := Lib.hid ht
            clear ht
            have B4 := Lib.hid (show Below W.heap.size W (wr.alloc (.cells #[.int .i64 (sp l i).1.1, .int .i64 (sp l i).1.2.1, .int .i64 (sp l i).1.2.2.1, .int .i64 (sp l i).1.2.2.2, .int .i64 (sp l i).2.1, .int .i64 t] 50)) from BB.out.alloc BB.out.size _)
            have lk := in_look (LL.out.in_.below B4.out) (i := i) (by omega)
            by_cases hin : i ∈ out
            · rw [show bit out i = 1 by simp [bit, hin]] at lk
              have AN := Lib.hid (show ∀ x, x < i + 1 → 0 ≤ (sp l x).2.2 → x ∈ out from fun x hx h => by
                by_cases e : x = i
                · rw [e]; exact hin
                · exact AA.out x (by omega) h)
              clear hin
              by_cases ht0 : 0 ≤ t
              ·
                go_wp2_with fail
                go_roundw
                case rel => exact ⟨i + 1, by omega, by go_num, AN.out, B4.out⟩
                case measure => simp [intOf]; omega
              · have ht1 : decide (0 ≤ t) = false := by simp; omega
                clear ht0
                go_wp2_with fail
                go_roundw
                case rel => exact ⟨i + 1, by omega, by go_num, AN.out, B4.out⟩
                case measure => simp [intOf]; omega
            · rw [show bit out i = 0 by simp [bit, hin]] at lk
              by_cases ht0 : 0 ≤ t
              · have HF := Lib.hid (show holdsB l o = false by rw [HZ.out]; exact end_no hlt (by rw [← HT.out]; exact ht0) hin)
                clear hin
                go_wp2_with fail
                go_ret
                exact ⟨retB HF.out.symm, on2 LL.out.below B4.out⟩
              · have ht1 : decide (0 ≤ t) = false := by simp; omega
                have AN := Lib.hid (show ∀ x, x < i + 1 → 0 ≤ (sp l x).2.2 → x ∈ out from fun x hx h => by
                  by_cases e : x = i
                  · rw [e, ← HT.out] at h; exact absurd h ht0
                  · exact AA.out x (by omega) h)
                clear hin ht0
                go_wp2_with fail
                go_roundw
                case rel => exact ⟨i + 1, by omega, by go_num, AN.out, B4.out⟩
                case measure => simp [intOf]; omega
          · obtain rfl : i = l.length := by omega
            have HF := Lib.hid (show holdsB l o = true by rw [HZ.out, endB_iff]; exact fun x hx h => AA.out x hx h)
            go_wp2_with fail
            go_ret
            exact ⟨retB HF.out.symm, on2 LL.out.below BB.out⟩
  · have HF := Lib.hid (holds_no o h0)
    have hne : (chk l != 0) = true := by simpa using h0
    clear h0
    generalize chk l = c at *
    go_enter Try.func32, Try.ntmps32
    go_wp2_with fail
    refine hck.mono ?_
    rintro e w1 ⟨rfl, hb⟩
    go_wp2_with fail
    go_ret
    exact ⟨retB HF.out.symm, hb⟩
end Go.Proofs.Ythmkmjoeceghiaa
namespace Go.Proofs.Ythmkmjoeceghiaa
open Go.RowKit

attribute [local go_sem ↓] Go.wp_at_zero Go.wp_at_succ
def aheadB (a b : Sp) : Bool := decide (0 ≤ a.2.2) && decide (a.2.2 < b.2.1)
theorem lateB_eq (l : List Sp) (k j : Nat) : lateB l k j = aheadB (sp l k) (sp l j) := rfl
set_option maxHeartbeats 1000000 in
theorem ahead_at (a b : Sp) (w : World) : Calls Try.prog 65 #[spV a, spV b] w fun e w' => e = .returned (.bool (aheadB a b)) ∧ Below w.heap.size w w' := by
  have HB := Lib.hid (((Below.refl w.heap.size w).alloc (Nat.le_refl _) (.cells #[.int .i64 a.1.1, .int .i64 a.1.2.1, .int .i64 a.1.2.2.1, .int .i64 a.1.2.2.2, .int .i64 a.2.1, .int .i64 a.2.2] 50)).alloc (by simp) (.cells #[.int .i64 b.1.1, .int .i64 b.1.2.1, .int .i64 b.1.2.2.1, .int .i64 b.1.2.2.2, .int .i64 b.2.1, .int .i64 b.2.2] 50))
  obtain ⟨t, ht⟩ : ∃ t, t = a.2.2 := ⟨_, rfl⟩
  obtain ⟨f, hf⟩ : ∃ f, f = b.2.1 := ⟨_, rfl⟩
  have HA := Lib.hid (show aheadB a b = (decide (0 ≤ t) && decide (t < f)) by rw [ht, hf]; rfl)
  rw [← ht, ← hf] at HB
  unfold spV
  rw [← ht, ← hf]
  clear ht hf
  by_cases h1 : 0 ≤ t
  · by_cases h2 : t < f
    · have HR := Lib.hid (show aheadB a b = true by rw [HA.out, decide_eq_true h1, decide_eq_true h2]; rfl)
      go_enter Try.func65, Try.ntmps65
      go_wp2_with fail
      go_ret
      exact ⟨retB HR.out.symm, HB.out⟩
    · have HR := Lib.hid (show aheadB a b = false by rw [HA.out, decide_eq_false h2]; simp)
      have h2' : decide (t < f) = false := by simpa using h2
      clear h2
      go_enter Try.func65, Try.ntmps65
      go_wp2_with fail
      go_ret
      exact ⟨retB HR.out.symm, HB.out⟩
  · have HR := Lib.hid (show aheadB a b = false by rw [HA.out, decide_eq_false h1]; rfl)
    have h1' : decide (0 ≤ t) = false := by simpa using h1
    clear h1
    go_enter Try.func65, Try.ntmps65
    go_wp2_with fail
    go_ret
    exact ⟨retB HR.out.symm, HB.out⟩
/-- the state of the reference's Holds -/
structure Hr (l : List Sp) (w : World) (R D : Nat) (out : List Nat) (S : List Ob) (wr : World) : Prop where
  rh : Rh wr R R S
  row : wr.rowIs D 4 l.length (fun i => .bool (decide (i ∈ out)))
  below : Below w.heap.size w wr
  nd : out.Nodup
  lt : ∀ j ∈ out, j < l.length
  wR : w.heap.size ≤ R
  wD : w.heap.size ≤ D
  RD : R ≠ D
  sl : S.length ≤ out.length
  Rl : R ≤ wr.heap.size
section
variable {l : List Sp} {w : World} {R D : Nat} {out : List Nat} {S : List Ob} {wr w' : World}
theorem Hr.below' (h : Hr l w R D out S wr) (hb : Below wr.heap.size wr w') : Hr l w R D out S w' :=
  { h with rh := h.rh.below hb, row := World.rowIs.of_block h.row (hb.block _ (World.rowIs.lt h.row)), below := on2 h.below hb, Rl := Nat.le_trans h.Rl hb.size }
theorem Hr.len (h : Hr l w R D out S wr) : out.length ≤ l.length := nodup_len _ _ h.nd h.lt
theorem Hr.did (h : Hr l w R D out S wr) (hg : wr.grownBy w' (some R)) : w'.rowIs D 4 l.length (fun i => .bool (decide (i ∈ out))) ∧ Below w.heap.size w w' :=
  ⟨World.rowIs.of_block h.row (hg.block _ (World.rowIs.lt h.row) (by simpa using Ne.symm h.RD)), h.below.grown hg h.below.size (fun g e => by cases e; exact h.wR)⟩
theorem Hr.step (h : Hr l w R D out S wr) {k : Nat} (hk : k < l.length) (hko : k ∉ out) {w1 : World} (hH : Rh w1 R R (doS S (sp l k).1)) (hg : wr.grownBy w1 (some R)) :
    Hr l w R D (out ++ [k]) (doS S (sp l k).1) (w1.setCell ⟨D, k, none⟩ (.bool true)) := by
  obtain ⟨h1, h2⟩ := h.did hg
  refine ⟨hH.keep (set_grown w1 D k (.bool true)) (by simpa using h.RD) (fun g e => ?_), (World.rowIs.set h1 k (.bool true)).congr fun j hj => ?_, h2.setCell (p := ⟨D, k, none⟩) h.wD (.bool true), ?_, ?_, h.wR, h.wD, h.RD, ?_, ?_⟩
  · obtain rfl : D = g := by simpa using e
    obtain ⟨cs, hcs⟩ := row_cells h1
    exact ⟨cs, 4, hcs, by decide⟩
  · by_cases e : j = k
    · subst e; simp
    · simp [e]
  · exact List.nodup_append.2 ⟨h.nd, by simp, fun a ha b hb => by
      obtain rfl : b = k := by simpa using hb
      rintro rfl; exact hko ha⟩
  · intro j hj
    rcases List.mem_append.1 hj with h1 | h1
    · exact h.lt j h1
    · obtain rfl : j = k := by simpa using h1
      exact hk
  · have := len_doS S (sp l k).1
    have := h.sl
    simp; omega
  · have := hg.size; have := h.Rl; simp; omega
end
theorem all_late {l : List Sp} {out : List Nat} {n i : Nat} (hi : i < out.length) (h : aheadB (sp l n) (sp l (out.getD i 0)) = true) : (out.all fun j => !lateB l n j) = false := by
  rw [Bool.eq_false_iff]
  intro ha
  have h1 := List.all_eq_true.1 ha (out.getD i 0) (by rw [List.getD_eq_getElem?_getD, List.getElem?_eq_getElem hi]; simp)
  rw [lateB_eq, h] at h1; cases h1
theorem all_free {l : List Sp} {out : List Nat} {n : Nat} (h : ∀ x, x < out.length → aheadB (sp l n) (sp l (out.getD x 0)) = false) : (out.all fun j => !lateB l n j) = true := by
  rw [List.all_eq_true]
  intro j hj
  obtain ⟨x, hx, rfl⟩ := List.getElem_of_mem hj
  have := h x hx
  rw [List.getD_eq_getElem?_getD, List.getElem?_eq_getElem hx, Option.getD_some] at this
  rw [lateB_eq, this]; rfl
end Go.Proofs.Ythmkmjoeceghiaa
namespace Go.Proofs.Ythmkmjoeceghiaa
open Go.RowKit

attribute [local go_sem ↓] Go.wp_at_zero Go.wp_at_succ
set_option maxRecDepth 100000 in
set_option maxHeartbeats 8000000 in
theorem rholds_any (l : List Sp) (o : List Int) (a c : Option Addr) (cap kc : Nat) (w : World) (hl : l.length ≤ 5000000000000) (hw : WfS l) (hI : IsSpans w a l) (hO : IsSl encI w c o) :
    Calls Try.prog 33 #[.slice a l.length cap, .slice c o.length kc] w (HoldsIs l o w) := by
  have HI := Lib.hid hI
  have HO := Lib.hid hO
  have HWF := Lib.hid (show ∀ i, i < l.length → WfO (sp l i).1.2 from fun i hi => by
    rw [sp_at (List.getElem?_eq_getElem hi)]; exact hw _ (List.getElem_mem hi))
  have hck := rcheck_any l a cap w (by omega) hI
  obtain ⟨i0, hi, hz0, hz1, hz2⟩ := info_parts info3
  have hol := hO.len
  clear hI hw hO
  by_cases h0 : chk l = 0
  · rw [h0] at hck
    have hl256 := (chk_zero h0).1
    have H0 := Lib.hid (holds_yes o h0)
    clear h0
    have hmk := run_make_row' (P := Try.prog) 60 4 (.bool false) 1 Try.underlying60 info4 rfl .i64 .i64 l.length (by omega) (by omega)
    go_enter Try.func33, Try.ntmps33
    go_wp2_with fail
    refine hck.mono ?_
    rintro e w1 ⟨rfl, hb⟩
    have B1 := Lib.hid hb
    clear hb hck
    go_wp2_with fail
    clear hmk
    obtain ⟨D, hD⟩ : ∃ D, D = w1.heap.size := ⟨_, rfl⟩
    have hwD : w.heap.size ≤ D := by rw [hD]; exact B1.out.size
    have L3 := Lib.hid (show (w1.alloc (.cells (madeCells #[.bool false] l.length) 4)).rowIs D 4 l.length (fun j => .bool (decide (j ∈ ([] : List Nat)))) from by
      rw [hD]; exact (World.rowIs_made w1 (.bool false) l.length 4).congr (fun j _ => by simp))
    have B3 := Lib.hid (show Below w.heap.size w (w1.alloc (.cells (madeCells #[.bool false] l.length) 4)) from B1.out.alloc B1.out.size _)
    rw [← hD]
    have hDlt : D < (w1.alloc (.cells (madeCells #[.bool false] l.length) 4)).heap.size := by rw [hD]; simp
    clear hD B1
    generalize w1.alloc (.cells (madeCells #[.bool false] l.length) 4) = w3 at *
    refine (rnew_any w3).mono ?_
    rintro e w4 ⟨rfl, hR, hb⟩
    have HQ := Lib.hid (show Hr l w w3.heap.size D [] [] w4 from
      ⟨hR, World.rowIs.of_block L3.out (hb.block _ (World.rowIs.lt L3.out)), on2 B3.out hb, by simp, by simp, B3.out.size, hwD, by omega, by simp, hb.size⟩)
    clear hR hb L3 B3
    go_wp2_with fail
    generalize w3.heap.size = R at *
    clear hwD hDlt
    go_loopw [7] (fun jv wr => ∃ (j : Nat) (out : List Nat) (S : List Ob), j ≤ o.length ∧ jv = .int .i64 j ∧ out.length = j ∧ (∀ x, x < j → o[x]? = some ((out.getD x 0 : Nat) : Int)) ∧ ordFrom l [] [] o = ordFrom l out S (o.drop j) ∧ Hr l w R D out S wr) (fun jv _ => o.length - (intOf jv).toNat)
    case atStart => exact ⟨0, [], [], Nat.zero_le _, rfl, rfl, fun x hx => absurd hx (Nat.not_lt_zero _), by rw [List.drop_zero], HQ.out⟩
    case round =>
      clear HQ
      obtain ⟨j, out, S, hj, rfl, hoj, hox, hE, hL⟩ := hrel
      have HE := Lib.hid hE
      have LL := Lib.hid hL
      have OX := Lib.hid hox
      have OJ := Lib.hid hoj
      clear hE hL hox hoj
      by_cases hlt : j < o.length
      · obtain ⟨bo, oo, k, rfl, hx, ce⟩ := (HO.out.below LL.out.below).at hlt
        have HX := Lib.hid hx
        have HD := Lib.hid (show o.drop j = k :: o.drop (j + 1) by
          obtain ⟨h1, h2⟩ := List.getElem?_eq_some_iff.1 hx
          rw [List.drop_eq_getElem_cons h1, h2])
        have j0 : (0 : Int) ≤ (j : Int) := by omega
        have j1 : (j : Int) < (o.length : Int) := by omega
        clear hx
        by_cases hk0 : k < 0
        · have HF := Lib.hid (show holdsB l o = false by rw [H0.out, HE.out, HD.out, ord_bad (now_out (.inl hk0))])
          go_wp2_with fail
          go_ret
          exact ⟨retB HF.out.symm, LL.out.below⟩
        · obtain ⟨n, rfl⟩ : ∃ n : Nat, k = n := ⟨k.toNat, by omega⟩
          by_cases hk1 : n < l.length
          · have e0 : decide ((n : Int) < 0) = false := by simp
            have e1 : decide (l.length ≤ n) = false := by simp; omega
            have n0 : (0 : Int) ≤ (n : Int) := by omega
            have n1 : (n : Int) < (l.length : Int) := by omega
            have lk := LL.out.row.cell (i := n) hk1
            by_cases hin : n ∈ out
            · have HF := Lib.hid (show holdsB l o = false by rw [H0.out, HE.out, HD.out, ord_bad (by rw [now_eq l out S n hk1, decide_eq_false (fun h => h hin)]; rfl)])
              rw [decide_eq_true hin] at lk
              clear hin hk0
              go_wp2_with fail
              go_ret
              exact ⟨retB HF.out.symm, LL.out.below⟩
            · rw [decide_eq_false hin] at lk
              obtain ⟨g, off, rfl⟩ := HI.out.form (by omega)
              obtain ⟨d0, d1, d2, d3, d4, d5⟩ := (HI.out.below LL.out.below).at hk1
              have hdo := rdo_any R R S (sp l n).1 wr LL.out.rh LL.out.Rl (by have := LL.out.len; have := LL.out.sl; omega)
              have HIN := Lib.hid hin
              obtain ⟨E, hE⟩ : ∃ E, E = doE S (sp l n).1 := ⟨_, rfl⟩
              rw [← hE] at hdo
              have HDE := Lib.hid hE
              clear hin hE hk0
              by_cases hE0 : E = 0
              · subst hE0
                have HN := Lib.hid (show nowB l out S n = out.all fun j => !lateB l n j by
                  rw [now_eq l out S n hk1, decide_eq_true HIN.out, decide_eq_true HDE.out.symm]; rfl)
                go_wp2_with fail
                refine hdo.mono ?_
                rintro e w4 ⟨rfl, hH4, hg4⟩
                have LN := Lib.hid (LL.out.step hk1 HIN.out hH4 hg4)
                have R4 := Lib.hid (LL.out.did hg4)
                have hcd := R4.out.1.cell (i := n) hk1
                have hfz := R4.out.1.frozen n
                clear hH4 hg4 hdo d0 d1 d2 d3 d4 d5 lk LL R4
                go_wp2_with fail
                clear hcd hfz
                generalize w4.setCell ⟨D, n, none⟩ (.bool true) = w5 at *
                go_loopw [9] (fun iv wr => ∃ i : Nat, i ≤ j ∧ iv = .int .i64 i ∧ (∀ x, x < i → aheadB (sp l n) (sp l (out.getD x 0)) = false) ∧ Below w5.heap.size w5 wr) (fun iv _ => j - (intOf iv).toNat)
                case atStart => exact ⟨0, Nat.zero_le _, rfl, fun x hx => absurd hx (Nat.not_lt_zero _), Below.refl _ _⟩
                case round =>
                  obtain ⟨i, hi', rfl, hA, hB'⟩ := hrel
                  have AA := Lib.hid hA
                  have BB := Lib.hid hB'
                  clear hA hB'
                  by_cases hlt2 : i < j
                  · have hil : i < out.length := by rw [OJ.out]; exact hlt2
                    obtain ⟨m, hm⟩ : ∃ m, m = out.getD i 0 := ⟨_, rfl⟩
                    have hml : m < l.length := by
                      rw [hm, List.getD_eq_getElem?_getD, List.getElem?_eq_getElem hil]
                      exact LN.out.lt _ (by simp)
                    obtain ⟨bo', oo', hbo, hco⟩ := (HO.out.below (on2 LN.out.below BB.out)).2 (by intro e; rw [e] at hlt; simp at hlt)
                    obtain ⟨rfl, rfl⟩ : bo = bo' ∧ oo = oo' := by simpa using hbo
                    have ci := hco i _ (OX.out i hlt2)
                    rw [← hm] at ci
                    obtain ⟨d0, d1, d2, d3, d4, d5⟩ := (HI.out.below (on2 LN.out.below BB.out)).at hk1
                    obtain ⟨f0, f1, f2, f3, f4, f5⟩ := (HI.out.below (on2 LN.out.below BB.out)).at hml
                    have i0 : (0 : Int) ≤ (i : Int) := by omega
                    have i1 : (i : Int) < (o.length : Int) := by omega
                    have i2 : (i : Int) < (j : Int) := by omega
                    have m0 : (0 : Int) ≤ (m : Int) := by omega
                    have m1 : (m : Int) < (l.length : Int) := by omega
                    have hah := fun W' => ahead_at (sp l n) (sp l m) W'
                    obtain ⟨q, hq⟩ : ∃ q, q = aheadB (sp l n) (sp l m) := ⟨_, rfl⟩
                    rw [← hq] at hah
                    have Q := Lib.hid hq
                    have HM := Lib.hid hm
                    clear hq hm hbo hco
                    have k0 := fun d os => cell_regrown d0 d os
                    have k1 := fun d os => cell_regrown d1 d os
                    have k2 := fun d os => cell_regrown d2 d os
                    have k3 := fun d os => cell_regrown d3 d os
                    have k4 := fun d os => cell_regrown d4 d os
                    have k5 := fun d os => cell_regrown d5 d os
                    have g0 := fun d os => cell_regrown f0 d os
                    have g1 := fun d os => cell_regrown f1 d os
                    have g2 := fun d os => cell_regrown f2 d os
                    have g3 := fun d os => cell_regrown f3 d os
                    have g4 := fun d os => cell_regrown f4 d os
                    have g5 := fun d os => cell_regrown f5 d os
                    have kc := fun d os => cell_regrown ci d os
                    go_wp2_with fail
                    refine wp_region_quiet_below (by kernel_rfl) (by kernel_rfl) ?_
                    repeat (quiet_step (first | ((go_at_call 65; exact Calls.regrown_of (hah _)))))
                    refine wpQuiet_nil ?_
                    intro _ hw'
                    obtain ⟨⟨dq, osq⟩, hw''⟩ := hw'
                    subst hw''
                    have hbq : Below wr.heap.size wr (Go.Sort.grow (redrawn wr dq) osq) := below_regrown wr dq osq
                    dsimp only
                    generalize Go.Sort.grow (redrawn wr dq) osq = wq at hbq ⊢
                    have B6 := Lib.hid (on2 BB.out hbq)
                    clear k0 k1 k2 k3 k4 k5 g0 g1 g2 g3 g4 g5 kc d0 d1 d2 d3 d4 d5 f0 f1 f2 f3 f4 f5 ci hah hbq
                    cases q with
                    | true =>
                      have HF := Lib.hid (show holdsB l o = false by
                        rw [H0.out, HE.out, HD.out, ord_bad]
                        rw [HN.out]; exact all_late hil (by rw [← HM.out]; exact Q.out.symm))
                      go_wp2_with fail
                      go_ret
                      exact ⟨retB HF.out.symm, on2 LN.out.below B6.out⟩
                    | false =>
                      have AN := Lib.hid (show ∀ x, x < i + 1 → aheadB (sp l n) (sp l (out.getD x 0)) = false from fun x hx => by
                        by_cases e : x = i
                        · rw [e, ← HM.out]; exact Q.out.symm
                        · exact AA.out x (by omega))
                      go_wp2_with fail
                      go_roundw
                      case rel => exact ⟨i + 1, by omega, by go_num, AN.out, B6.out⟩
                      case measure => simp [intOf]; omega
                  · obtain rfl : i = j := by omega
                    have HG := Lib.hid (show ordFrom l [] [] o = ordFrom l (out ++ [n]) (doS S (sp l n).1) (o.drop (i + 1)) by
                      rw [HE.out, HD.out, ord_good]
                      rw [HN.out]; exact all_free (fun x hx => AA.out x (by rw [← OJ.out]; exact hx)))
                    have LM := Lib.hid (LN.out.below' BB.out)
                    have OY := Lib.hid (show ∀ x, x < i + 1 → o[x]? = some (((out ++ [n]).getD x 0 : Nat) : Int) from fun x hx => by
                      by_cases e : x = i
                      · subst e; rw [HX.out, List.getD_eq_getElem?_getD, List.getElem?_append_right (by rw [OJ.out]; exact Nat.le_refl _), OJ.out]; simp
                      · rw [OX.out x (by omega), List.getD_eq_getElem?_getD, List.getD_eq_getElem?_getD, List.getElem?_append_left (by rw [OJ.out]; omega)])
                    go_wp2_with fail
                    go_roundw
                    case rel => exact ⟨i + 1, out ++ [n], _, by omega, by go_num, by rw [List.length_append, OJ.out]; rfl, OY.out, HG.out, LM.out⟩
                    case measure => simp [intOf]; omega
              · have e2 : (E != 0) = true := by simpa using hE0
                have HF := Lib.hid (show holdsB l o = false by
                  rw [H0.out, HE.out, HD.out, ord_bad]
                  rw [now_eq l out S n hk1, decide_eq_false (show ¬ doE S (sp l n).1 = 0 by rw [← HDE.out]; exact hE0)]; simp)
                clear hE0
                go_wp2_with fail
                refine hdo.mono ?_
                rintro e w4 ⟨rfl, hH4, hg4⟩
                have B4 := Lib.hid (LL.out.did hg4).2
                clear hH4 hg4 hdo d0 d1 d2 d3 d4 d5
                go_wp2_with fail
                go_ret
                exact ⟨retB HF.out.symm, B4.out⟩
          · have e0 : decide ((n : Int) < 0) = false := by simp
            have e1 : (l.length : Int) ≤ (n : Int) := by omega
            have HF := Lib.hid (show holdsB l o = false by rw [H0.out, HE.out, HD.out, ord_bad (now_out (.inr e1))])
            go_wp2_with fail
            go_ret
            exact ⟨retB HF.out.symm, LL.out.below⟩
      · obtain rfl : j = o.length := by omega
        have HZ := Lib.hid (show holdsB l o = endB l out by rw [H0.out, HE.out, List.drop_length]; rfl)
        go_wp2_with fail
        generalize wr = W at *
        have hlo := LL.out.len
        go_loopw [10] (fun iv wr => ∃ i : Nat, i ≤ l.length ∧ iv = .int .i64 i ∧ (∀ x, x < i → 0 ≤ (sp l x).2.2 → x ∈ out) ∧ Below W.heap.size W wr) (fun iv _ => l.length - (intOf iv).toNat)
        case atStart => exact ⟨0, Nat.zero_le _, rfl, fun x hx => absurd hx (Nat.not_lt_zero _), Below.refl _ _⟩
        case round =>
          obtain ⟨i, hi', rfl, hA, hB'⟩ := hrel
          have AA := Lib.hid hA
          have B4 := Lib.hid hB'
          clear hA hB'
          by_cases hlt : i < l.length
          · obtain ⟨g, off, rfl⟩ := HI.out.form (by omega)
            obtain ⟨-, -, -, -, -, d5⟩ := (HI.out.below (on2 LL.out.below B4.out)).at hlt
            have i0 : (0 : Int) ≤ (i : Int) := by omega
            have i1 : (i : Int) < (l.length : Int) := by omega
            obtain ⟨t, ht⟩ : ∃ t, t = (sp l i).2.2 := ⟨_, rfl⟩
            rw [← ht] at d5
            have HT := Lib.hid ht
            clear ht
            have lk := (LL.out.below' B4.out).row.cell (i := i) hlt
            by_cases hin : i ∈ out
            · rw [decide_eq_true hin] at lk
              have AN := Lib.hid (show ∀ x, x < i + 1 → 0 ≤ (sp l x).2.2 → x ∈ out from fun x hx h => by
                by_cases e : x = i
                · rw [e]; exact hin
                · exact AA.out x (by omega) h)
              clear hin
              by_cases ht0 : 0 ≤ t
              ·
                go_wp2_with fail
                go_roundw
                case rel => exact ⟨i + 1, by omega, by go_num, AN.out, B4.out⟩
                case measure => simp [intOf]; omega
              · have ht1 : decide (0 ≤ t) = false := by simp; omega
                clear ht0
                go_wp2_with fail
                go_roundw
                case rel => exact ⟨i + 1, by omega, by go_num, AN.out, B4.out⟩
                case measure => simp [intOf]; omega
            · rw [decide_eq_false hin] at lk
              by_cases ht0 : 0 ≤ t
              · have HF := Lib.hid (show holdsB l o = false by rw [HZ.out]; exact end_no hlt (by rw [← HT.out]; exact ht0) hin)
                clear hin
                go_wp2_with fail
                go_ret
                exact ⟨retB HF.out.symm, on2 LL.out.below B4.out⟩
              · have ht1 : decide (0 ≤ t) = false := by simp; omega
                have AN := Lib.hid (show ∀ x, x < i + 1 → 0 ≤ (sp l x).2.2 → x ∈ out from fun x hx h => by
                  by_cases e : x = i
                  · rw [e, ← HT.out] at h; exact absurd h ht0
                  · exact AA.out x (by omega) h)
                clear hin ht0
                go_wp2_with fail
                go_roundw
                case rel => exact ⟨i + 1, by omega, by go_num, AN.out, B4.out⟩
                case measure => simp [intOf]; omega
          · obtain rfl : i = l.length := by omega
            have HF := Lib.hid (show holdsB l o = true by rw [HZ.out, endB_iff]; exact fun x hx h => AA.out x hx h)
            go_wp2_with fail
            go_ret
            exact ⟨retB HF.out.symm, on2 LL.out.below B4.out⟩
  · have HF := Lib.hid (holds_no o h0)
    have hne : (chk l != 0) = true := by simpa using h0
    clear h0
    generalize chk l = c at *
    go_enter Try.func33, Try.ntmps33
    go_wp2_with fail
    refine hck.mono ?_
    rintro e w1 ⟨rfl, hb⟩
    go_wp2_with fail
    go_ret
    exact ⟨retB HF.out.symm, hb⟩
end Go.Proofs.Ythmkmjoeceghiaa
