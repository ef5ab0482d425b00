/- HeapTurns. -/
import Derived.Test.YthmkmjoeceghiaaAF
import Derived.Test.YthmkmjoeceghiaaN
import Derived.Deep.OwnRows
namespace Go.Proofs.Ythmkmjoeceghiaa
open Go.RowKit

attribute [local go_sem ↓] Go.wp_at_zero Go.wp_at_succ
theorem info4 : (Try.prog.info? 4).map (fun i => (i.zero, i.size, i.bytes)) = some (some (.bool false), 1, 1) := by kernel_rfl
theorem Hp.grownX {w w' : World} {B M n R : Nat} {S : List Ob} (h : Hp w B M n S) (hB : B ≠ R) (hM : M ≠ R) (hg : w.grownBy w' (some R)) : Hp w' B M n S := by
  obtain ⟨D, hD, hh⟩ := h.map
  exact ⟨(hg.block B h.bB.lt (by simpa using hB)).trans h.bB, ⟨D, hD.kept hg (by simpa using hM), hh⟩, h.wf⟩
theorem IsDeeds.take {w : World} {a : Option Addr} {l : List Dd} (h : IsDeeds w a l) (n : Nat) : IsDeeds w a (l.take n) := fun hne => by
  obtain ⟨g, off, rfl, hc⟩ := h (by intro e; rw [e] at hne; simp at hne)
  exact ⟨g, off, rfl, fun k c hx => hc k c (by rw [List.getElem?_take] at hx; split at hx <;> simp_all)⟩
/-- what deed j does to the count of an object -/
def turn (l : List Dd) (o : Ob) (j : Nat) (d : Dd) : Int := if doE (stAt l j) d = 0 ∧ d.2 = o then (if d.1 = 1 then 1 else if d.1 = 3 then -1 else 0) else 0
def cnt (l : List Dd) (o : Ob) : Nat → Int
  | 0 => 0
  | j + 1 => cnt l o j + match l[j]? with | none => 0 | some d => turn l o j d
theorem cnt_succ {l : List Dd} {o : Ob} {j : Nat} {d : Dd} (h : l[j]? = some d) : cnt l o (j + 1) = cnt l o j + turn l o j d := by
  unfold cnt; rw [h]; cases j <;> rfl
theorem cnt_mem (l : List Dd) (o : Ob) : ∀ j, j ≤ l.length → cnt l o j = if o ∈ stAt l j then 1 else 0
  | 0, _ => by simp [cnt, stAt]
  | j + 1, hj => by
    have hd := List.getElem?_eq_getElem (show j < l.length by omega)
    rw [cnt_succ hd, cnt_mem l o j (by omega), stAt_succ hd]
    unfold turn
    generalize l[j] = d
    generalize stAt l j = S
    obtain ⟨k, x⟩ := d
    dsimp only
    by_cases he : doE S (k, x) = 0
    · by_cases hx : x = o
      · subst hx
        have hS : doS S (k, x) = if k = 1 then putL S x else if k = 3 then dropL S x else S := by unfold doS; rw [if_neg (by simpa using he)]
        have hE := he
        unfold doE at hE
        rw [hS]
        dsimp only at hE ⊢
        by_cases h1 : k = 1
        · subst h1
          have : x ∉ S := fun hm => by simp [hm] at hE
          simp [he, this, mem_putL]
        · by_cases h3 : k = 3
          · subst h3
            have : x ∈ S := Classical.byContradiction fun hm => by simp [hm] at hE
            simp [he, this, mem_dropL]
          · simp [h1, h3]
      · have := mem_doS_other (S := S) (d := (k, x)) (o := o) (fun e => hx e.symm)
        by_cases ho : o ∈ S <;> simp [hx, ho, this]
    · have : doS S (k, x) = S := by unfold doS; rw [if_pos he]
      rw [this]
      simp [he]
theorem cnt_bd (l : List Dd) (o : Ob) (j : Nat) (hj : j ≤ l.length) : 0 ≤ cnt l o j ∧ cnt l o j ≤ 1 := by
  rw [cnt_mem l o j hj]; split <;> omega
/-- is deed j, ahead of i, done? -/
def okB (l : List Dd) (i j : Nat) : Bool := decide (j < i) && match l[j]? with | none => false | some d => decide (doE (stAt l j) d = 0)
theorem okB_at {l : List Dd} {i j : Nat} {d : Dd} (h : l[j]? = some d) (hj : j < i) : okB l i j = decide (doE (stAt l j) d = 0) := by unfold okB; rw [h]; simp [hj]
theorem okB_set {l : List Dd} {i : Nat} {d : Dd} {b : Bool} (h : l[i]? = some d) (hb : b = decide (doE (stAt l i) d = 0)) (j : Nat) : (if j = i then Value.bool b else .bool (okB l i j)) = .bool (okB l (i + 1) j) := by
  by_cases e : j = i
  · subst e; rw [if_pos rfl, okB_at h (by omega), hb]
  · rw [if_neg e]
    unfold okB
    have : decide (j < i) = decide (j < i + 1) := by rw [decide_eq_decide]; omega
    rw [this]
theorem doS_err {S : List Ob} {d : Dd} (h : doE S d ≠ 0) : doS S d = S := by unfold doS; rw [if_pos h]
set_option maxRecDepth 100000 in
set_option maxHeartbeats 8000000 in
theorem turns_any (l0 : List Dd) (a : Option Addr) (cap : Nat) (w : World) (hl : l0.length < 5000000000000) (hcl : l0.length ≤ cap) (hnil : a = none → cap = 0) (hw : WfD l0) (hI : IsDeeds w a l0) :
    Calls Try.prog 14 #[.slice a l0.length cap] w fun e w' => e = .returned (.bool true) ∧ Below w.heap.size w w' := by
  have hlm : l0.length ≤ 9223372036854775807 := by omega
  by_cases h150 : l0.length ≤ 150
  · obtain ⟨l, hll⟩ : ∃ l, l = l0.take l0.length := ⟨_, rfl⟩
    have hlen : l.length = l0.length := by rw [hll, List.length_take]; omega
    have HI := Lib.hid (show IsDeeds w a l by rw [hll]; exact hI.take _)
    have HWF := Lib.hid (show WfD l from fun d hd => hw d (by rw [hll] at hd; exact List.mem_of_mem_take hd))
    have hn1 : l0.length ≤ l0.length := by omega
    have hn2 : l0.length ≤ 150 := by omega
    have HLN := Lib.hid hlen
    have hcz : l0.length ≤ cap := by omega
    clear hI hw hll hlen
    have hmk := show ∀ w : World, (Instr.makeSlice 60 (.int .i64 (l0.length : Int)) (.int .i64 (l0.length : Int))).run Try.prog w = .ok (.slice (some ⟨w.heap.size, 0, none⟩) l0.length l0.length) (w.alloc (.cells (madeCells #[.bool false] l0.length) 4)) from run_make_row' (P := Try.prog) 60 4 (.bool false) 1 Try.underlying60 info4 rfl .i64 .i64 l0.length (by omega) (by omega)
    go_enter Try.func14, Try.ntmps14
    go_wp2_with fail
    refine (works_any w).mono ?_
    rintro e w1 ⟨rfl, hb⟩
    have B1 := Lib.hid hb
    clear hb
    go_wp2_with fail
    refine (new_any w1).mono ?_
    rintro e w2 ⟨rfl, hH, hb⟩
    have H2 := Lib.hid hH
    have hMl := B1.out.size
    have B2 := Lib.hid (on2 B1.out hb)
    clear hH hb B1
    generalize w1.heap.size = M at *
    obtain ⟨D, hD⟩ : ∃ D, D = w2.heap.size := ⟨_, rfl⟩
    have hMD : M + 1 < D := by rw [hD]; exact H2.out.bB.lt
    have R2 := Lib.hid (show (w2.alloc (.cells (madeCells #[.bool false] l0.length) 4)).rowIs D 4 l0.length (fun j => .bool (okB l 0 j)) from by
      rw [hD]; exact (World.rowIs_made w2 (.bool false) l0.length 4).congr (fun j _ => by simp [okB]))
    have H3 := Lib.hid (H2.out.below ((Below.refl _ w2).alloc (Nat.le_refl _) (.cells (madeCells #[.bool false] l0.length) 4)))
    have B3 := Lib.hid (B2.out.alloc B2.out.size (.cells (madeCells #[.bool false] l0.length) 4))
    have hmn : min (l0.length : Int) 150 = (l0.length : Int) := by omega
    have hmx : max ((l0.length : Int)) 0 = (l0.length : Int) := by omega
    have hmt : ((l0.length : Int)).toNat = l0.length := by omega
    go_wp2_with fail
    rw [← hD]
    clear hD H2 B2 hmk hmn hmx hmt
    generalize w2.alloc (.cells (madeCells #[.bool false] l0.length) 4) = w3 at *
    go_loopw [5] (fun iv wr => ∃ i : Nat, i ≤ l0.length ∧ iv = .int .i64 i ∧ Hp wr (M + 1) M i (stAt l i) ∧ Up (stAt l i) ∧ wr.rowIs D 4 l0.length (fun j => .bool (okB l i j)) ∧ Below w.heap.size w wr) (fun iv _ => l0.length - (intOf iv).toNat)
    case atStart => exact ⟨0, Nat.zero_le _, rfl, H3.out, upNil, R2.out, B3.out⟩
    case round =>
      clear H3 R2 B3
      obtain ⟨i, hi, rfl, hH, hU, hR, hB⟩ := hrel
      have HH := Lib.hid hH
      have UU := Lib.hid hU
      have RR := Lib.hid hR
      have BB := Lib.hid hB
      clear hH hU hR hB
      by_cases hlt : i < l0.length
      · obtain ⟨⟨x0, o0, o1, o2⟩, hx⟩ : ∃ x, l[i]? = some x := ⟨_, List.getElem?_eq_getElem (by rw [HLN.out]; exact hlt)⟩
        have HNE := Lib.hid (show l ≠ [] from by intro e; rw [e] at hx; simp at hx)
        have HX := Lib.hid hx
        obtain ⟨g, off, rfl, hc⟩ := (HI.out.below BB.out) HNE.out
        have KC := Lib.hid (show ∀ W : World, Below w.heap.size w W → ∀ (k : Nat) (c : Dd), l[k]? = some c → W.cell? ⟨g, off + k * 4, none⟩ = some (.int .i64 c.1) ∧ W.cell? ⟨g, off + k * 4 + 1, none⟩ = some (.int .i64 c.2.1) ∧ W.cell? ⟨g, off + k * 4 + 2, none⟩ = some (.int .i64 c.2.2.1) ∧ W.cell? ⟨g, off + k * 4 + 3, none⟩ = some (.int .i64 c.2.2.2) from fun W hb => by
          obtain ⟨g', off', he, hc⟩ := (HI.out.below hb) HNE.out
          obtain ⟨rfl, rfl⟩ : g = g' ∧ off = off' := by simpa using he
          exact hc)
        clear hc hx
        have hwo := HWF.out _ (List.mem_of_getElem? HX.out)
        have WO := Lib.hid hwo
        have i0' : (0 : Int) ≤ (i : Int) := by omega
        have i1 : (i : Int) < (l0.length : Int) := by omega
        obtain ⟨S, hS⟩ : ∃ S, S = stAt l i := ⟨_, rfl⟩
        have hSl := stAt_len l i
        rw [← hS] at HH UU hSl
        have hST := stAt_succ HX.out
        rw [← hS] at hST
        obtain ⟨E, hE⟩ : ∃ E, E = doE S (x0, o0, o1, o2) := ⟨_, rfl⟩
        obtain ⟨T, hT⟩ : ∃ T, T = doS S (x0, o0, o1, o2) := ⟨_, rfl⟩
        have hTl := len_doS S (x0, o0, o1, o2)
        have hTU := doS_up UU.out (x0, o0, o1, o2)
        have hERR : E ≠ 0 → T = S := fun he => by rw [hT]; exact doS_err (by rw [← hE]; exact he)
        have hdo := fun W (h : Hp W (M + 1) M i S) => do_any (M + 1) M i S (x0, o0, o1, o2) W h hwo (by unfold maxLen; omega)
        rw [← hE, ← hT] at hdo
        rw [← hT] at hTl hTU hST
        have DO := Lib.hid hdo
        have TU := Lib.hid hTU
        have ST := Lib.hid hST
        have OKS := Lib.hid (fun (b : Bool) (hb : b = decide (E = 0)) => okB_set (b := b) HX.out (by rw [hb, hE, hS]))
        have ERR := Lib.hid hERR
        have CM := Lib.hid (cnt_mem l (o0, o1, o2) (i + 1) (by rw [HLN.out]; omega))
        have CB := Lib.hid (cnt_bd l (o0, o1, o2))
        clear hdo hE hT hTU hwo hST hERR hS
        have hout := out_any (M + 1) M i S wr HH.out UU.out (by omega) (by omega)
        go_wp2_with fail
        refine hout.mono ?_
        rintro e w4 ⟨va, rfl, hOa, hb4⟩
        obtain ⟨aa, ca, rfl, _, _⟩ := owns_form hOa
        have H4 := Lib.hid (HH.out.below hb4)
        have R4 := Lib.hid (RR.out.of_block (hb4.block D RR.out.lt))
        have B4 := Lib.hid (on2 BB.out hb4)
        clear hOa hb4 hout HH RR BB
        obtain ⟨d0, d1, d2, d3⟩ := KC.out _ B4.out i _ HX.out
        dsimp only at d0 d1 d2 d3
        have hhas := has_any (M + 1) M i S (o0, o1, o2) w4 H4.out WO.out
        go_wp2_with fail
        refine hhas.mono ?_
        rintro e w5 ⟨rfl, hb5⟩
        have H5 := Lib.hid (H4.out.below hb5)
        have R5 := Lib.hid (R4.out.of_block (hb5.block D R4.out.lt))
        have B5 := Lib.hid (on2 B4.out hb5)
        clear hb5 hhas H4 R4 B4 d0 d1 d2 d3
        obtain ⟨d0, d1, d2, d3⟩ := KC.out _ B5.out i _ HX.out
        dsimp only at d0 d1 d2 d3
        obtain ⟨mb, hmb⟩ : ∃ mb, mb = decide ((o0, o1, o2) ∈ S) := ⟨_, rfl⟩
        rw [← hmb]
        have MB := Lib.hid hmb
        clear hmb
        go_wp2_with fail
        refine (DO.out w5 H5.out).mono ?_
        rintro e w6 ⟨rfl, hH6, hg6⟩
        have H6 := Lib.hid hH6
        have R6 := Lib.hid (R5.out.of_block (hg6.block D R5.out.lt (by simp; omega)))
        have B6 := Lib.hid (B5.out.grown hg6 B5.out.size (fun k e => by cases e; exact hMl))
        clear hH6 hg6 H5 R5 B5 DO d0 d1 d2 d3
        have hfz := R6.out.frozen i
        have hcd := R6.out.cell (i := i) hlt
        by_cases hE0 : E = 0
        · have R7 := Lib.hid ((R6.out.set i (.bool true)).congr (fun j _ => OKS.out true (by simp [hE0]) j))
          have H7 := Lib.hid (H6.out.grownX (by omega) (by omega) (set_grown w6 D i (.bool true)))
          have B7 := Lib.hid (B6.out.setCell (p := ⟨D, i, none⟩) (show w.heap.size ≤ D by omega) (.bool true))
          have hE1 : (E == 0) = true := by simpa using hE0
          have hE2 : (E != 0) = false := by simpa using hE0
          clear hE0 R6 H6 B6
          go_wp2_with fail
          clear hfz hcd hE1 hE2
          generalize w6.setCell ⟨D, i, none⟩ (.bool true) = w8 at *
          go_wp2_with fail
          go_loopw [9, 10] (fun kv jv wr => ∃ j : Nat, j ≤ i + 1 ∧ jv = .int .i64 j ∧ kv = .int .i64 (cnt l (o0, o1, o2) j) ∧ Below (w8).heap.size (w8) wr) (fun _ jv _ => i + 1 - (intOf jv).toNat)
          case atStart => exact ⟨0, Nat.zero_le _, rfl, rfl, Below.refl _ _⟩
          case round =>
            obtain ⟨j, hj, rfl, rfl, hb⟩ := hrel
            have BX := Lib.hid hb
            clear hb
            have hcb := CB.out j (by rw [HLN.out]; omega)
            by_cases hjl : j < i + 1
            · obtain ⟨⟨y0, p0, p1, p2⟩, hy⟩ : ∃ y, l[j]? = some y := ⟨_, List.getElem?_eq_getElem (by rw [HLN.out]; omega)⟩
              have CS := Lib.hid (cnt_succ (o := (o0, o1, o2)) hy)
              have KD := Lib.hid (show ∀ W : World, Below (w8).heap.size (w8) W → W.cell? ⟨D, j, none⟩ = some (.bool (decide (doE (stAt l j) (y0, p0, p1, p2) = 0))) from fun W hb => by
                have h := ((R7).out.of_block (hb.block D (R7).out.lt)).cell (i := j) (by omega)
                rw [okB_at hy (by omega)] at h; exact h)
              have KY := Lib.hid (fun W (hb : Below (w8).heap.size (w8) W) => KC.out W (on2 (B7).out hb) j _ hy)
              have KX := Lib.hid (fun W (hb : Below (w8).heap.size (w8) W) => KC.out W (on2 (B7).out hb) i _ HX.out)
              have j0 : (0 : Int) ≤ (j : Int) := by omega
              have j1 : (j : Int) < (l0.length : Int) := by omega
              have j2 : (j : Int) ≤ (i : Int) := by omega
              clear hy
              by_cases hd : doE (stAt l j) (y0, p0, p1, p2) = 0
              · rw [decide_eq_true hd] at KD
                by_cases hyo : (p0, p1, p2) = (o0, o1, o2)
                · have hq := eql30 (x := (p0, p1, p2)) (y := (o0, o1, o2)) true (by simpa using hyo)
                  by_cases h1 : y0 = 1
                  · have TT := Lib.hid (show cnt l (o0, o1, o2) (j + 1) = cnt l (o0, o1, o2) j + 1 by rw [CS.out]; unfold turn; rw [if_pos ⟨hd, hyo⟩, if_pos h1])
                    have e1 : (y0 == 1) = true := by simpa using h1
                    have e3 : (y0 == 3) = false := by simp; omega
                    clear h1 hyo hd CS
                    have z0 := KD.out _ BX.out
                    obtain ⟨z1, z2, z3, z4⟩ := KY.out _ BX.out
                    obtain ⟨z5, z6, z7, z8⟩ := KX.out _ BX.out
                    try dsimp only at z1 z2 z3 z4 z5 z6 z7 z8
                    go_wp2_with fail
                    go_quiet (fail)
                    clear z0 z1 z2 z3 z4 z5 z6 z7 z8
                    replace BX := Lib.hid (below_drewN BX.out nq)
                    generalize wr.drewN nq = wq at *
                    have z0 := KD.out _ BX.out
                    obtain ⟨z1, z2, z3, z4⟩ := KY.out _ BX.out
                    obtain ⟨z5, z6, z7, z8⟩ := KX.out _ BX.out
                    try dsimp only at z1 z2 z3 z4 z5 z6 z7 z8
                    go_wp2_with fail
                    go_quiet (fail)
                    clear z0 z1 z2 z3 z4 z5 z6 z7 z8
                    replace BX := Lib.hid (below_drewN BX.out nq)
                    go_wp2_with fail
                    go_roundw
                    case rel => exact ⟨j + 1, by omega, by go_num, by rw [TT.out]; try go_num, BX.out⟩
                    case measure => simp [intOf]; omega
                  · by_cases h3 : y0 = 3
                    · have TT := Lib.hid (show cnt l (o0, o1, o2) (j + 1) = cnt l (o0, o1, o2) j - 1 by rw [CS.out]; unfold turn; rw [if_pos ⟨hd, hyo⟩, if_neg h1, if_pos h3]; omega)
                      have e1 : (y0 == 1) = false := by simp; omega
                      have e3 : (y0 == 3) = true := by simpa using h3
                      clear h1 h3 hyo hd CS
                      have z0 := KD.out _ BX.out
                      obtain ⟨z1, z2, z3, z4⟩ := KY.out _ BX.out
                      obtain ⟨z5, z6, z7, z8⟩ := KX.out _ BX.out
                      try dsimp only at z1 z2 z3 z4 z5 z6 z7 z8
                      go_wp2_with fail
                      go_quiet (fail)
                      clear z0 z1 z2 z3 z4 z5 z6 z7 z8
                      replace BX := Lib.hid (below_drewN BX.out nq)
                      generalize wr.drewN nq = wq at *
                      have z0 := KD.out _ BX.out
                      obtain ⟨z1, z2, z3, z4⟩ := KY.out _ BX.out
                      obtain ⟨z5, z6, z7, z8⟩ := KX.out _ BX.out
                      try dsimp only at z1 z2 z3 z4 z5 z6 z7 z8
                      go_wp2_with fail
                      go_quiet (fail)
                      clear z0 z1 z2 z3 z4 z5 z6 z7 z8
                      replace BX := Lib.hid (below_drewN BX.out nq)
                      go_wp2_with fail
                      go_roundw
                      case rel => exact ⟨j + 1, by omega, by go_num, by rw [TT.out]; try go_num, BX.out⟩
                      case measure => simp [intOf]; omega
                    · have TT := Lib.hid (show cnt l (o0, o1, o2) (j + 1) = cnt l (o0, o1, o2) j by rw [CS.out]; simp [turn, h1, h3])
                      have e1 : (y0 == 1) = false := by simpa using h1
                      have e3 : (y0 == 3) = false := by simpa using h3
                      clear h1 h3 hyo hd CS
                      have z0 := KD.out _ BX.out
                      obtain ⟨z1, z2, z3, z4⟩ := KY.out _ BX.out
                      obtain ⟨z5, z6, z7, z8⟩ := KX.out _ BX.out
                      try dsimp only at z1 z2 z3 z4 z5 z6 z7 z8
                      go_wp2_with fail
                      go_quiet (fail)
                      clear z0 z1 z2 z3 z4 z5 z6 z7 z8
                      replace BX := Lib.hid (below_drewN BX.out nq)
                      generalize wr.drewN nq = wq at *
                      have z0 := KD.out _ BX.out
                      obtain ⟨z1, z2, z3, z4⟩ := KY.out _ BX.out
                      obtain ⟨z5, z6, z7, z8⟩ := KX.out _ BX.out
                      try dsimp only at z1 z2 z3 z4 z5 z6 z7 z8
                      go_wp2_with fail
                      go_quiet (fail)
                      clear z0 z1 z2 z3 z4 z5 z6 z7 z8
                      replace BX := Lib.hid (below_drewN BX.out nq)
                      go_wp2_with fail
                      go_roundw
                      case rel => exact ⟨j + 1, by omega, by go_num, by rw [TT.out]; try go_num, BX.out⟩
                      case measure => simp [intOf]; omega
                · have hq := eql30 (x := (p0, p1, p2)) (y := (o0, o1, o2)) false (by simpa using hyo)
                  have TT := Lib.hid (show cnt l (o0, o1, o2) (j + 1) = cnt l (o0, o1, o2) j by rw [CS.out]; simp only [turn, hyo, and_false, if_false, Int.add_zero])
                  clear hyo hd CS
                  have z0 := KD.out _ BX.out
                  obtain ⟨z1, z2, z3, z4⟩ := KY.out _ BX.out
                  obtain ⟨z5, z6, z7, z8⟩ := KX.out _ BX.out
                  try dsimp only at z1 z2 z3 z4 z5 z6 z7 z8
                  go_wp2_with fail
                  go_quiet (fail)
                  clear z0 z1 z2 z3 z4 z5 z6 z7 z8
                  replace BX := Lib.hid (below_drewN BX.out nq)
                  generalize wr.drewN nq = wq at *
                  have z0 := KD.out _ BX.out
                  obtain ⟨z1, z2, z3, z4⟩ := KY.out _ BX.out
                  obtain ⟨z5, z6, z7, z8⟩ := KX.out _ BX.out
                  try dsimp only at z1 z2 z3 z4 z5 z6 z7 z8
                  go_wp2_with fail
                  go_quiet (fail)
                  clear z0 z1 z2 z3 z4 z5 z6 z7 z8
                  replace BX := Lib.hid (below_drewN BX.out nq)
                  go_wp2_with fail
                  go_roundw
                  case rel => exact ⟨j + 1, by omega, by go_num, by rw [TT.out]; try go_num, BX.out⟩
                  case measure => simp [intOf]; omega
              · rw [decide_eq_false hd] at KD
                have TT := Lib.hid (show cnt l (o0, o1, o2) (j + 1) = cnt l (o0, o1, o2) j by rw [CS.out]; simp [turn, hd])
                clear hd CS
                have z0 := KD.out _ BX.out
                obtain ⟨z1, z2, z3, z4⟩ := KY.out _ BX.out
                obtain ⟨z5, z6, z7, z8⟩ := KX.out _ BX.out
                try dsimp only at z1 z2 z3 z4 z5 z6 z7 z8
                go_wp2_with fail
                go_quiet (fail)
                clear z0 z1 z2 z3 z4 z5 z6 z7 z8
                replace BX := Lib.hid (below_drewN BX.out nq)
                generalize wr.drewN nq = wq at *
                have z0 := KD.out _ BX.out
                obtain ⟨z1, z2, z3, z4⟩ := KY.out _ BX.out
                obtain ⟨z5, z6, z7, z8⟩ := KX.out _ BX.out
                try dsimp only at z1 z2 z3 z4 z5 z6 z7 z8
                go_wp2_with fail
                go_quiet (fail)
                clear z0 z1 z2 z3 z4 z5 z6 z7 z8
                replace BX := Lib.hid (below_drewN BX.out nq)
                go_wp2_with fail
                go_roundw
                case rel => exact ⟨j + 1, by omega, by go_num, by rw [TT.out]; try go_num, BX.out⟩
                case measure => simp [intOf]; omega
            · obtain rfl : j = i + 1 := by omega
              have HN := Lib.hid ((H7).out.below BX.out)
              have RN := Lib.hid ((R7).out.of_block (BX.out.block D (R7).out.lt))
              have BN := Lib.hid (on2 (B7).out BX.out)
              have hhas := has_any (M + 1) M (i + 1) T (o0, o1, o2) _ HN.out WO.out
              obtain ⟨d0, d1, d2, d3⟩ := KC.out _ BN.out i _ HX.out
              dsimp only at d0 d1 d2 d3
              have j2 : ¬ ((i + 1 : Nat) : Int) ≤ (i : Int) := by omega
              clear hcb BX
              by_cases hm : (o0, o1, o2) ∈ T
              · have hc1 : cnt l (o0, o1, o2) (i + 1) = 1 := by rw [CM.out, ST.out, if_pos hm]
                rw [decide_eq_true hm] at hhas
                rw [hc1]
                clear hc1 hm
                go_wp2_with fail
                refine hhas.mono ?_
                rintro e w5 ⟨rfl, hb5⟩
                have H9' := Lib.hid (HN.out.below hb5)
                have R9' := Lib.hid (RN.out.of_block (hb5.block D RN.out.lt))
                have B9' := Lib.hid (on2 BN.out hb5)
                clear hb5 hhas d0 d1 d2 d3
                go_wp2_with fail
                go_roundw
                case rel => exact ⟨i + 1, by omega, by go_num, by rw [ST.out]; exact H9'.out, by rw [ST.out]; exact TU.out, R9'.out, B9'.out⟩
                case measure => simp [intOf]; omega
              · have hc1 : cnt l (o0, o1, o2) (i + 1) = 0 := by rw [CM.out, ST.out, if_neg hm]
                rw [decide_eq_false hm] at hhas
                rw [hc1]
                clear hc1 hm
                go_wp2_with fail
                refine hhas.mono ?_
                rintro e w5 ⟨rfl, hb5⟩
                have H9' := Lib.hid (HN.out.below hb5)
                have R9' := Lib.hid (RN.out.of_block (hb5.block D RN.out.lt))
                have B9' := Lib.hid (on2 BN.out hb5)
                clear hb5 hhas d0 d1 d2 d3
                go_wp2_with fail
                go_roundw
                case rel => exact ⟨i + 1, by omega, by go_num, by rw [ST.out]; exact H9'.out, by rw [ST.out]; exact TU.out, R9'.out, B9'.out⟩
                case measure => simp [intOf]; omega
        · have R7 := Lib.hid ((R6.out.set i (.bool false)).congr (fun j _ => OKS.out false (by simp [hE0]) j))
          have H7 := Lib.hid (H6.out.grownX (by omega) (by omega) (set_grown w6 D i (.bool false)))
          have B7 := Lib.hid (B6.out.setCell (p := ⟨D, i, none⟩) (show w.heap.size ≤ D by omega) (.bool false))
          have hE1 : (E == 0) = false := by simpa using hE0
          have hE2 : (E != 0) = true := by simpa using hE0
          have hTS := ERR.out hE0
          subst hTS
          clear hE0 R6 H6 B6
          go_wp2_with fail
          clear hfz hcd hE1 hE2
          generalize w6.setCell ⟨D, i, none⟩ (.bool false) = w7 at *
          have hout := out_any (M + 1) M (i + 1) T w7 H7.out TU.out (by omega) (by omega)
          go_wp2_with fail
          refine hout.mono ?_
          rintro e w8 ⟨va, rfl, hOa, hb8⟩
          obtain ⟨ab, cb, rfl, _, _⟩ := owns_form hOa
          have H8 := Lib.hid (H7.out.below hb8)
          have R8 := Lib.hid (R7.out.of_block (hb8.block D R7.out.lt))
          have B8 := Lib.hid (on2 B7.out hb8)
          clear hOa hb8 hout H7 R7 B7
          obtain ⟨d0, d1, d2, d3⟩ := KC.out _ B8.out i _ HX.out
          dsimp only at d0 d1 d2 d3
          have hhas := has_any (M + 1) M (i + 1) T (o0, o1, o2) w8 H8.out WO.out
          rw [← MB.out] at hhas
          go_wp2_with fail
          refine hhas.mono ?_
          rintro e w9 ⟨rfl, hb9⟩
          have H9 := Lib.hid (H8.out.below hb9)
          have R9 := Lib.hid (R8.out.of_block (hb9.block D R8.out.lt))
          have B9 := Lib.hid (on2 B8.out hb9)
          clear hb9 hhas H8 R8 B8 d0 d1 d2 d3
          go_wp2_with fail
          go_wp2_with fail
          go_loopw [9, 10] (fun kv jv wr => ∃ j : Nat, j ≤ i + 1 ∧ jv = .int .i64 j ∧ kv = .int .i64 (cnt l (o0, o1, o2) j) ∧ Below (w9).heap.size (w9) wr) (fun _ jv _ => i + 1 - (intOf jv).toNat)
          case atStart => exact ⟨0, Nat.zero_le _, rfl, rfl, Below.refl _ _⟩
          case round =>
            obtain ⟨j, hj, rfl, rfl, hb⟩ := hrel
            have BX := Lib.hid hb
            clear hb
            have hcb := CB.out j (by rw [HLN.out]; omega)
            by_cases hjl : j < i + 1
            · obtain ⟨⟨y0, p0, p1, p2⟩, hy⟩ : ∃ y, l[j]? = some y := ⟨_, List.getElem?_eq_getElem (by rw [HLN.out]; omega)⟩
              have CS := Lib.hid (cnt_succ (o := (o0, o1, o2)) hy)
              have KD := Lib.hid (show ∀ W : World, Below (w9).heap.size (w9) W → W.cell? ⟨D, j, none⟩ = some (.bool (decide (doE (stAt l j) (y0, p0, p1, p2) = 0))) from fun W hb => by
                have h := ((R9).out.of_block (hb.block D (R9).out.lt)).cell (i := j) (by omega)
                rw [okB_at hy (by omega)] at h; exact h)
              have KY := Lib.hid (fun W (hb : Below (w9).heap.size (w9) W) => KC.out W (on2 (B9).out hb) j _ hy)
              have KX := Lib.hid (fun W (hb : Below (w9).heap.size (w9) W) => KC.out W (on2 (B9).out hb) i _ HX.out)
              have j0 : (0 : Int) ≤ (j : Int) := by omega
              have j1 : (j : Int) < (l0.length : Int) := by omega
              have j2 : (j : Int) ≤ (i : Int) := by omega
              clear hy
              by_cases hd : doE (stAt l j) (y0, p0, p1, p2) = 0
              · rw [decide_eq_true hd] at KD
                by_cases hyo : (p0, p1, p2) = (o0, o1, o2)
                · have hq := eql30 (x := (p0, p1, p2)) (y := (o0, o1, o2)) true (by simpa using hyo)
                  by_cases h1 : y0 = 1
                  · have TT := Lib.hid (show cnt l (o0, o1, o2) (j + 1) = cnt l (o0, o1, o2) j + 1 by rw [CS.out]; unfold turn; rw [if_pos ⟨hd, hyo⟩, if_pos h1])
                    have e1 : (y0 == 1) = true := by simpa using h1
                    have e3 : (y0 == 3) = false := by simp; omega
                    clear h1 hyo hd CS
                    have z0 := KD.out _ BX.out
                    obtain ⟨z1, z2, z3, z4⟩ := KY.out _ BX.out
                    obtain ⟨z5, z6, z7, z8⟩ := KX.out _ BX.out
                    try dsimp only at z1 z2 z3 z4 z5 z6 z7 z8
                    go_wp2_with fail
                    go_quiet (fail)
                    clear z0 z1 z2 z3 z4 z5 z6 z7 z8
                    replace BX := Lib.hid (below_drewN BX.out nq)
                    generalize wr.drewN nq = wq at *
                    have z0 := KD.out _ BX.out
                    obtain ⟨z1, z2, z3, z4⟩ := KY.out _ BX.out
                    obtain ⟨z5, z6, z7, z8⟩ := KX.out _ BX.out
                    try dsimp only at z1 z2 z3 z4 z5 z6 z7 z8
                    go_wp2_with fail
                    go_quiet (fail)
                    clear z0 z1 z2 z3 z4 z5 z6 z7 z8
                    replace BX := Lib.hid (below_drewN BX.out nq)
                    go_wp2_with fail
                    go_roundw
                    case rel => exact ⟨j + 1, by omega, by go_num, by rw [TT.out]; try go_num, BX.out⟩
                    case measure => simp [intOf]; omega
                  · by_cases h3 : y0 = 3
                    · have TT := Lib.hid (show cnt l (o0, o1, o2) (j + 1) = cnt l (o0, o1, o2) j - 1 by rw [CS.out]; unfold turn; rw [if_pos ⟨hd, hyo⟩, if_neg h1, if_pos h3]; omega)
                      have e1 : (y0 == 1) = false := by simp; omega
                      have e3 : (y0 == 3) = true := by simpa using h3
                      clear h1 h3 hyo hd CS
                      have z0 := KD.out _ BX.out
                      obtain ⟨z1, z2, z3, z4⟩ := KY.out _ BX.out
                      obtain ⟨z5, z6, z7, z8⟩ := KX.out _ BX.out
                      try dsimp only at z1 z2 z3 z4 z5 z6 z7 z8
                      go_wp2_with fail
                      go_quiet (fail)
                      clear z0 z1 z2 z3 z4 z5 z6 z7 z8
                      replace BX := Lib.hid (below_drewN BX.out nq)
                      generalize wr.drewN nq = wq at *
                      have z0 := KD.out _ BX.out
                      obtain ⟨z1, z2, z3, z4⟩ := KY.out _ BX.out
                      obtain ⟨z5, z6, z7, z8⟩ := KX.out _ BX.out
                      try dsimp only at z1 z2 z3 z4 z5 z6 z7 z8
                      go_wp2_with fail
                      go_quiet (fail)
                      clear z0 z1 z2 z3 z4 z5 z6 z7 z8
                      replace BX := Lib.hid (below_drewN BX.out nq)
                      go_wp2_with fail
                      go_roundw
                      case rel => exact ⟨j + 1, by omega, by go_num, by rw [TT.out]; try go_num, BX.out⟩
                      case measure => simp [intOf]; omega
                    · have TT := Lib.hid (show cnt l (o0, o1, o2) (j + 1) = cnt l (o0, o1, o2) j by rw [CS.out]; simp [turn, h1, h3])
                      have e1 : (y0 == 1) = false := by simpa using h1
                      have e3 : (y0 == 3) = false := by simpa using h3
                      clear h1 h3 hyo hd CS
                      have z0 := KD.out _ BX.out
                      obtain ⟨z1, z2, z3, z4⟩ := KY.out _ BX.out
                      obtain ⟨z5, z6, z7, z8⟩ := KX.out _ BX.out
                      try dsimp only at z1 z2 z3 z4 z5 z6 z7 z8
                      go_wp2_with fail
                      go_quiet (fail)
                      clear z0 z1 z2 z3 z4 z5 z6 z7 z8
                      replace BX := Lib.hid (below_drewN BX.out nq)
                      generalize wr.drewN nq = wq at *
                      have z0 := KD.out _ BX.out
                      obtain ⟨z1, z2, z3, z4⟩ := KY.out _ BX.out
                      obtain ⟨z5, z6, z7, z8⟩ := KX.out _ BX.out
                      try dsimp only at z1 z2 z3 z4 z5 z6 z7 z8
                      go_wp2_with fail
                      go_quiet (fail)
                      clear z0 z1 z2 z3 z4 z5 z6 z7 z8
                      replace BX := Lib.hid (below_drewN BX.out nq)
                      go_wp2_with fail
                      go_roundw
                      case rel => exact ⟨j + 1, by omega, by go_num, by rw [TT.out]; try go_num, BX.out⟩
                      case measure => simp [intOf]; omega
                · have hq := eql30 (x := (p0, p1, p2)) (y := (o0, o1, o2)) false (by simpa using hyo)
                  have TT := Lib.hid (show cnt l (o0, o1, o2) (j + 1) = cnt l (o0, o1, o2) j by rw [CS.out]; simp only [turn, hyo, and_false, if_false, Int.add_zero])
                  clear hyo hd CS
                  have z0 := KD.out _ BX.out
                  obtain ⟨z1, z2, z3, z4⟩ := KY.out _ BX.out
                  obtain ⟨z5, z6, z7, z8⟩ := KX.out _ BX.out
                  try dsimp only at z1 z2 z3 z4 z5 z6 z7 z8
                  go_wp2_with fail
                  go_quiet (fail)
                  clear z0 z1 z2 z3 z4 z5 z6 z7 z8
                  replace BX := Lib.hid (below_drewN BX.out nq)
                  generalize wr.drewN nq = wq at *
                  have z0 := KD.out _ BX.out
                  obtain ⟨z1, z2, z3, z4⟩ := KY.out _ BX.out
                  obtain ⟨z5, z6, z7, z8⟩ := KX.out _ BX.out
                  try dsimp only at z1 z2 z3 z4 z5 z6 z7 z8
                  go_wp2_with fail
                  go_quiet (fail)
                  clear z0 z1 z2 z3 z4 z5 z6 z7 z8
                  replace BX := Lib.hid (below_drewN BX.out nq)
                  go_wp2_with fail
                  go_roundw
                  case rel => exact ⟨j + 1, by omega, by go_num, by rw [TT.out]; try go_num, BX.out⟩
                  case measure => simp [intOf]; omega
              · rw [decide_eq_false hd] at KD
                have TT := Lib.hid (show cnt l (o0, o1, o2) (j + 1) = cnt l (o0, o1, o2) j by rw [CS.out]; simp [turn, hd])
                clear hd CS
                have z0 := KD.out _ BX.out
                obtain ⟨z1, z2, z3, z4⟩ := KY.out _ BX.out
                obtain ⟨z5, z6, z7, z8⟩ := KX.out _ BX.out
                try dsimp only at z1 z2 z3 z4 z5 z6 z7 z8
                go_wp2_with fail
                go_quiet (fail)
                clear z0 z1 z2 z3 z4 z5 z6 z7 z8
                replace BX := Lib.hid (below_drewN BX.out nq)
                generalize wr.drewN nq = wq at *
                have z0 := KD.out _ BX.out
                obtain ⟨z1, z2, z3, z4⟩ := KY.out _ BX.out
                obtain ⟨z5, z6, z7, z8⟩ := KX.out _ BX.out
                try dsimp only at z1 z2 z3 z4 z5 z6 z7 z8
                go_wp2_with fail
                go_quiet (fail)
                clear z0 z1 z2 z3 z4 z5 z6 z7 z8
                replace BX := Lib.hid (below_drewN BX.out nq)
                go_wp2_with fail
                go_roundw
                case rel => exact ⟨j + 1, by omega, by go_num, by rw [TT.out]; try go_num, BX.out⟩
                case measure => simp [intOf]; omega
            · obtain rfl : j = i + 1 := by omega
              have HN := Lib.hid ((H9).out.below BX.out)
              have RN := Lib.hid ((R9).out.of_block (BX.out.block D (R9).out.lt))
              have BN := Lib.hid (on2 (B9).out BX.out)
              have hhas := has_any (M + 1) M (i + 1) T (o0, o1, o2) _ HN.out WO.out
              obtain ⟨d0, d1, d2, d3⟩ := KC.out _ BN.out i _ HX.out
              dsimp only at d0 d1 d2 d3
              have j2 : ¬ ((i + 1 : Nat) : Int) ≤ (i : Int) := by omega
              clear hcb BX
              by_cases hm : (o0, o1, o2) ∈ T
              · have hc1 : cnt l (o0, o1, o2) (i + 1) = 1 := by rw [CM.out, ST.out, if_pos hm]
                rw [decide_eq_true hm] at hhas
                rw [hc1]
                clear hc1 hm
                go_wp2_with fail
                refine hhas.mono ?_
                rintro e w5 ⟨rfl, hb5⟩
                have H9' := Lib.hid (HN.out.below hb5)
                have R9' := Lib.hid (RN.out.of_block (hb5.block D RN.out.lt))
                have B9' := Lib.hid (on2 BN.out hb5)
                clear hb5 hhas d0 d1 d2 d3
                go_wp2_with fail
                go_roundw
                case rel => exact ⟨i + 1, by omega, by go_num, by rw [ST.out]; exact H9'.out, by rw [ST.out]; exact TU.out, R9'.out, B9'.out⟩
                case measure => simp [intOf]; omega
              · have hc1 : cnt l (o0, o1, o2) (i + 1) = 0 := by rw [CM.out, ST.out, if_neg hm]
                rw [decide_eq_false hm] at hhas
                rw [hc1]
                clear hc1 hm
                go_wp2_with fail
                refine hhas.mono ?_
                rintro e w5 ⟨rfl, hb5⟩
                have H9' := Lib.hid (HN.out.below hb5)
                have R9' := Lib.hid (RN.out.of_block (hb5.block D RN.out.lt))
                have B9' := Lib.hid (on2 BN.out hb5)
                clear hb5 hhas d0 d1 d2 d3
                go_wp2_with fail
                go_roundw
                case rel => exact ⟨i + 1, by omega, by go_num, by rw [ST.out]; exact H9'.out, by rw [ST.out]; exact TU.out, R9'.out, B9'.out⟩
                case measure => simp [intOf]; omega
      · obtain rfl : i = l0.length := by omega
        have B4 := Lib.hid BB.out
        go_wp2_with fail
        go_ret
        exact ⟨rfl, B4.out⟩
  · obtain ⟨l, hll⟩ : ∃ l, l = l0.take 150 := ⟨_, rfl⟩
    have hlen : l.length = 150 := by rw [hll, List.length_take]; omega
    have HI := Lib.hid (show IsDeeds w a l by rw [hll]; exact hI.take _)
    have HWF := Lib.hid (show WfD l from fun d hd => hw d (by rw [hll] at hd; exact List.mem_of_mem_take hd))
    have hn1 : 150 ≤ l0.length := by omega
    have hn2 : 150 ≤ 150 := by omega
    have HLN := Lib.hid hlen
    have hcz : 150 ≤ cap := by omega
    clear hI hw hll hlen
    have hmk := show ∀ w : World, (Instr.makeSlice 60 (.int .i64 (150 : Int)) (.int .i64 (150 : Int))).run Try.prog w = .ok (.slice (some ⟨w.heap.size, 0, none⟩) 150 150) (w.alloc (.cells (madeCells #[.bool false] 150) 4)) from run_make_row' (P := Try.prog) 60 4 (.bool false) 1 Try.underlying60 info4 rfl .i64 .i64 150 (by omega) (by omega)
    go_enter Try.func14, Try.ntmps14
    go_wp2_with fail
    refine (works_any w).mono ?_
    rintro e w1 ⟨rfl, hb⟩
    have B1 := Lib.hid hb
    clear hb
    go_wp2_with fail
    refine (new_any w1).mono ?_
    rintro e w2 ⟨rfl, hH, hb⟩
    have H2 := Lib.hid hH
    have hMl := B1.out.size
    have B2 := Lib.hid (on2 B1.out hb)
    clear hH hb B1
    generalize w1.heap.size = M at *
    obtain ⟨D, hD⟩ : ∃ D, D = w2.heap.size := ⟨_, rfl⟩
    have hMD : M + 1 < D := by rw [hD]; exact H2.out.bB.lt
    have R2 := Lib.hid (show (w2.alloc (.cells (madeCells #[.bool false] 150) 4)).rowIs D 4 150 (fun j => .bool (okB l 0 j)) from by
      rw [hD]; exact (World.rowIs_made w2 (.bool false) 150 4).congr (fun j _ => by simp [okB]))
    have H3 := Lib.hid (H2.out.below ((Below.refl _ w2).alloc (Nat.le_refl _) (.cells (madeCells #[.bool false] 150) 4)))
    have B3 := Lib.hid (B2.out.alloc B2.out.size (.cells (madeCells #[.bool false] 150) 4))
    have hmn : min (l0.length : Int) 150 = (150 : Int) := by omega
    have hmx : max ((150 : Int)) 0 = (150 : Int) := by omega
    have hmt : ((150 : Int)).toNat = 150 := by omega
    go_wp2_with fail
    rw [← hD]
    clear hD H2 B2 hmk hmn hmx hmt
    generalize w2.alloc (.cells (madeCells #[.bool false] 150) 4) = w3 at *
    go_loopw [5] (fun iv wr => ∃ i : Nat, i ≤ 150 ∧ iv = .int .i64 i ∧ Hp wr (M + 1) M i (stAt l i) ∧ Up (stAt l i) ∧ wr.rowIs D 4 150 (fun j => .bool (okB l i j)) ∧ Below w.heap.size w wr) (fun iv _ => 150 - (intOf iv).toNat)
    case atStart => exact ⟨0, Nat.zero_le _, rfl, H3.out, upNil, R2.out, B3.out⟩
    case round =>
      clear H3 R2 B3
      obtain ⟨i, hi, rfl, hH, hU, hR, hB⟩ := hrel
      have HH := Lib.hid hH
      have UU := Lib.hid hU
      have RR := Lib.hid hR
      have BB := Lib.hid hB
      clear hH hU hR hB
      by_cases hlt : i < 150
      · obtain ⟨⟨x0, o0, o1, o2⟩, hx⟩ : ∃ x, l[i]? = some x := ⟨_, List.getElem?_eq_getElem (by rw [HLN.out]; exact hlt)⟩
        have HNE := Lib.hid (show l ≠ [] from by intro e; rw [e] at hx; simp at hx)
        have HX := Lib.hid hx
        obtain ⟨g, off, rfl, hc⟩ := (HI.out.below BB.out) HNE.out
        have KC := Lib.hid (show ∀ W : World, Below w.heap.size w W → ∀ (k : Nat) (c : Dd), l[k]? = some c → W.cell? ⟨g, off + k * 4, none⟩ = some (.int .i64 c.1) ∧ W.cell? ⟨g, off + k * 4 + 1, none⟩ = some (.int .i64 c.2.1) ∧ W.cell? ⟨g, off + k * 4 + 2, none⟩ = some (.int .i64 c.2.2.1) ∧ W.cell? ⟨g, off + k * 4 + 3, none⟩ = some (.int .i64 c.2.2.2) from fun W hb => by
          obtain ⟨g', off', he, hc⟩ := (HI.out.below hb) HNE.out
          obtain ⟨rfl, rfl⟩ : g = g' ∧ off = off' := by simpa using he
          exact hc)
        clear hc hx
        have hwo := HWF.out _ (List.mem_of_getElem? HX.out)
        have WO := Lib.hid hwo
        have i0' : (0 : Int) ≤ (i : Int) := by omega
        have i1 : (i : Int) < (150 : Int) := by omega
        obtain ⟨S, hS⟩ : ∃ S, S = stAt l i := ⟨_, rfl⟩
        have hSl := stAt_len l i
        rw [← hS] at HH UU hSl
        have hST := stAt_succ HX.out
        rw [← hS] at hST
        obtain ⟨E, hE⟩ : ∃ E, E = doE S (x0, o0, o1, o2) := ⟨_, rfl⟩
        obtain ⟨T, hT⟩ : ∃ T, T = doS S (x0, o0, o1, o2) := ⟨_, rfl⟩
        have hTl := len_doS S (x0, o0, o1, o2)
        have hTU := doS_up UU.out (x0, o0, o1, o2)
        have hERR : E ≠ 0 → T = S := fun he => by rw [hT]; exact doS_err (by rw [← hE]; exact he)
        have hdo := fun W (h : Hp W (M + 1) M i S) => do_any (M + 1) M i S (x0, o0, o1, o2) W h hwo (by unfold maxLen; omega)
        rw [← hE, ← hT] at hdo
        rw [← hT] at hTl hTU hST
        have DO := Lib.hid hdo
        have TU := Lib.hid hTU
        have ST := Lib.hid hST
        have OKS := Lib.hid (fun (b : Bool) (hb : b = decide (E = 0)) => okB_set (b := b) HX.out (by rw [hb, hE, hS]))
        have ERR := Lib.hid hERR
        have CM := Lib.hid (cnt_mem l (o0, o1, o2) (i + 1) (by rw [HLN.out]; omega))
        have CB := Lib.hid (cnt_bd l (o0, o1, o2))
        clear hdo hE hT hTU hwo hST hERR hS
        have hout := out_any (M + 1) M i S wr HH.out UU.out (by omega) (by omega)
        go_wp2_with fail
        refine hout.mono ?_
        rintro e w4 ⟨va, rfl, hOa, hb4⟩
        obtain ⟨aa, ca, rfl, _, _⟩ := owns_form hOa
        have H4 := Lib.hid (HH.out.below hb4)
        have R4 := Lib.hid (RR.out.of_block (hb4.block D RR.out.lt))
        have B4 := Lib.hid (on2 BB.out hb4)
        clear hOa hb4 hout HH RR BB
        obtain ⟨d0, d1, d2, d3⟩ := KC.out _ B4.out i _ HX.out
        dsimp only at d0 d1 d2 d3
        have hhas := has_any (M + 1) M i S (o0, o1, o2) w4 H4.out WO.out
        go_wp2_with fail
        refine hhas.mono ?_
        rintro e w5 ⟨rfl, hb5⟩
        have H5 := Lib.hid (H4.out.below hb5)
        have R5 := Lib.hid (R4.out.of_block (hb5.block D R4.out.lt))
        have B5 := Lib.hid (on2 B4.out hb5)
        clear hb5 hhas H4 R4 B4 d0 d1 d2 d3
        obtain ⟨d0, d1, d2, d3⟩ := KC.out _ B5.out i _ HX.out
        dsimp only at d0 d1 d2 d3
        obtain ⟨mb, hmb⟩ : ∃ mb, mb = decide ((o0, o1, o2) ∈ S) := ⟨_, rfl⟩
        rw [← hmb]
        have MB := Lib.hid hmb
        clear hmb
        go_wp2_with fail
        refine (DO.out w5 H5.out).mono ?_
        rintro e w6 ⟨rfl, hH6, hg6⟩
        have H6 := Lib.hid hH6
        have R6 := Lib.hid (R5.out.of_block (hg6.block D R5.out.lt (by simp; omega)))
        have B6 := Lib.hid (B5.out.grown hg6 B5.out.size (fun k e => by cases e; exact hMl))
        clear hH6 hg6 H5 R5 B5 DO d0 d1 d2 d3
        have hfz := R6.out.frozen i
        have hcd := R6.out.cell (i := i) hlt
        by_cases hE0 : E = 0
        · have R7 := Lib.hid ((R6.out.set i (.bool true)).congr (fun j _ => OKS.out true (by simp [hE0]) j))
          have H7 := Lib.hid (H6.out.grownX (by omega) (by omega) (set_grown w6 D i (.bool true)))
          have B7 := Lib.hid (B6.out.setCell (p := ⟨D, i, none⟩) (show w.heap.size ≤ D by omega) (.bool true))
          have hE1 : (E == 0) = true := by simpa using hE0
          have hE2 : (E != 0) = false := by simpa using hE0
          clear hE0 R6 H6 B6
          go_wp2_with fail
          clear hfz hcd hE1 hE2
          generalize w6.setCell ⟨D, i, none⟩ (.bool true) = w8 at *
          go_wp2_with fail
          go_loopw [9, 10] (fun kv jv wr => ∃ j : Nat, j ≤ i + 1 ∧ jv = .int .i64 j ∧ kv = .int .i64 (cnt l (o0, o1, o2) j) ∧ Below (w8).heap.size (w8) wr) (fun _ jv _ => i + 1 - (intOf jv).toNat)
          case atStart => exact ⟨0, Nat.zero_le _, rfl, rfl, Below.refl _ _⟩
          case round =>
            obtain ⟨j, hj, rfl, rfl, hb⟩ := hrel
            have BX := Lib.hid hb
            clear hb
            have hcb := CB.out j (by rw [HLN.out]; omega)
            by_cases hjl : j < i + 1
            · obtain ⟨⟨y0, p0, p1, p2⟩, hy⟩ : ∃ y, l[j]? = some y := ⟨_, List.getElem?_eq_getElem (by rw [HLN.out]; omega)⟩
              have CS := Lib.hid (cnt_succ (o := (o0, o1, o2)) hy)
              have KD := Lib.hid (show ∀ W : World, Below (w8).heap.size (w8) W → W.cell? ⟨D, j, none⟩ = some (.bool (decide (doE (stAt l j) (y0, p0, p1, p2) = 0))) from fun W hb => by
                have h := ((R7).out.of_block (hb.block D (R7).out.lt)).cell (i := j) (by omega)
                rw [okB_at hy (by omega)] at h; exact h)
              have KY := Lib.hid (fun W (hb : Below (w8).heap.size (w8) W) => KC.out W (on2 (B7).out hb) j _ hy)
              have KX := Lib.hid (fun W (hb : Below (w8).heap.size (w8) W) => KC.out W (on2 (B7).out hb) i _ HX.out)
              have j0 : (0 : Int) ≤ (j : Int) := by omega
              have j1 : (j : Int) < (150 : Int) := by omega
              have j2 : (j : Int) ≤ (i : Int) := by omega
              clear hy
              by_cases hd : doE (stAt l j) (y0, p0, p1, p2) = 0
              · rw [decide_eq_true hd] at KD
                by_cases hyo : (p0, p1, p2) = (o0, o1, o2)
                · have hq := eql30 (x := (p0, p1, p2)) (y := (o0, o1, o2)) true (by simpa using hyo)
                  by_cases h1 : y0 = 1
                  · have TT := Lib.hid (show cnt l (o0, o1, o2) (j + 1) = cnt l (o0, o1, o2) j + 1 by rw [CS.out]; unfold turn; rw [if_pos ⟨hd, hyo⟩, if_pos h1])
                    have e1 : (y0 == 1) = true := by simpa using h1
                    have e3 : (y0 == 3) = false := by simp; omega
                    clear h1 hyo hd CS
                    have z0 := KD.out _ BX.out
                    obtain ⟨z1, z2, z3, z4⟩ := KY.out _ BX.out
                    obtain ⟨z5, z6, z7, z8⟩ := KX.out _ BX.out
                    try dsimp only at z1 z2 z3 z4 z5 z6 z7 z8
                    go_wp2_with fail
                    go_quiet (fail)
                    clear z0 z1 z2 z3 z4 z5 z6 z7 z8
                    replace BX := Lib.hid (below_drewN BX.out nq)
                    generalize wr.drewN nq = wq at *
                    have z0 := KD.out _ BX.out
                    obtain ⟨z1, z2, z3, z4⟩ := KY.out _ BX.out
                    obtain ⟨z5, z6, z7, z8⟩ := KX.out _ BX.out
                    try dsimp only at z1 z2 z3 z4 z5 z6 z7 z8
                    go_wp2_with fail
                    go_quiet (fail)
                    clear z0 z1 z2 z3 z4 z5 z6 z7 z8
                    replace BX := Lib.hid (below_drewN BX.out nq)
                    go_wp2_with fail
                    go_roundw
                    case rel => exact ⟨j + 1, by omega, by go_num, by rw [TT.out]; try go_num, BX.out⟩
                    case measure => simp [intOf]; omega
                  · by_cases h3 : y0 = 3
                    · have TT := Lib.hid (show cnt l (o0, o1, o2) (j + 1) = cnt l (o0, o1, o2) j - 1 by rw [CS.out]; unfold turn; rw [if_pos ⟨hd, hyo⟩, if_neg h1, if_pos h3]; omega)
                      have e1 : (y0 == 1) = false := by simp; omega
                      have e3 : (y0 == 3) = true := by simpa using h3
                      clear h1 h3 hyo hd CS
                      have z0 := KD.out _ BX.out
                      obtain ⟨z1, z2, z3, z4⟩ := KY.out _ BX.out
                      obtain ⟨z5, z6, z7, z8⟩ := KX.out _ BX.out
                      try dsimp only at z1 z2 z3 z4 z5 z6 z7 z8
                      go_wp2_with fail
                      go_quiet (fail)
                      clear z0 z1 z2 z3 z4 z5 z6 z7 z8
                      replace BX := Lib.hid (below_drewN BX.out nq)
                      generalize wr.drewN nq = wq at *
                      have z0 := KD.out _ BX.out
                      obtain ⟨z1, z2, z3, z4⟩ := KY.out _ BX.out
                      obtain ⟨z5, z6, z7, z8⟩ := KX.out _ BX.out
                      try dsimp only at z1 z2 z3 z4 z5 z6 z7 z8
                      go_wp2_with fail
                      go_quiet (fail)
                      clear z0 z1 z2 z3 z4 z5 z6 z7 z8
                      replace BX := Lib.hid (below_drewN BX.out nq)
                      go_wp2_with fail
                      go_roundw
                      case rel => exact ⟨j + 1, by omega, by go_num, by rw [TT.out]; try go_num, BX.out⟩
                      case measure => simp [intOf]; omega
                    · have TT := Lib.hid (show cnt l (o0, o1, o2) (j + 1) = cnt l (o0, o1, o2) j by rw [CS.out]; simp [turn, h1, h3])
                      have e1 : (y0 == 1) = false := by simpa using h1
                      have e3 : (y0 == 3) = false := by simpa using h3
                      clear h1 h3 hyo hd CS
                      have z0 := KD.out _ BX.out
                      obtain ⟨z1, z2, z3, z4⟩ := KY.out _ BX.out
                      obtain ⟨z5, z6, z7, z8⟩ := KX.out _ BX.out
                      try dsimp only at z1 z2 z3 z4 z5 z6 z7 z8
                      go_wp2_with fail
                      go_quiet (fail)
                      clear z0 z1 z2 z3 z4 z5 z6 z7 z8
                      replace BX := Lib.hid (below_drewN BX.out nq)
                      generalize wr.drewN nq = wq at *
                      have z0 := KD.out _ BX.out
                      obtain ⟨z1, z2, z3, z4⟩ := KY.out _ BX.out
                      obtain ⟨z5, z6, z7, z8⟩ := KX.out _ BX.out
                      try dsimp only at z1 z2 z3 z4 z5 z6 z7 z8
                      go_wp2_with fail
                      go_quiet (fail)
                      clear z0 z1 z2 z3 z4 z5 z6 z7 z8
                      replace BX := Lib.hid (below_drewN BX.out nq)
                      go_wp2_with fail
                      go_roundw
                      case rel => exact ⟨j + 1, by omega, by go_num, by rw [TT.out]; try go_num, BX.out⟩
                      case measure => simp [intOf]; omega
                · have hq := eql30 (x := (p0, p1, p2)) (y := (o0, o1, o2)) false (by simpa using hyo)
                  have TT := Lib.hid (show cnt l (o0, o1, o2) (j + 1) = cnt l (o0, o1, o2) j by rw [CS.out]; simp only [turn, hyo, and_false, if_false, Int.add_zero])
                  clear hyo hd CS
                  have z0 := KD.out _ BX.out
                  obtain ⟨z1, z2, z3, z4⟩ := KY.out _ BX.out
                  obtain ⟨z5, z6, z7, z8⟩ := KX.out _ BX.out
                  try dsimp only at z1 z2 z3 z4 z5 z6 z7 z8
                  go_wp2_with fail
                  go_quiet (fail)
                  clear z0 z1 z2 z3 z4 z5 z6 z7 z8
                  replace BX := Lib.hid (below_drewN BX.out nq)
                  generalize wr.drewN nq = wq at *
                  have z0 := KD.out _ BX.out
                  obtain ⟨z1, z2, z3, z4⟩ := KY.out _ BX.out
                  obtain ⟨z5, z6, z7, z8⟩ := KX.out _ BX.out
                  try dsimp only at z1 z2 z3 z4 z5 z6 z7 z8
                  go_wp2_with fail
                  go_quiet (fail)
                  clear z0 z1 z2 z3 z4 z5 z6 z7 z8
                  replace BX := Lib.hid (below_drewN BX.out nq)
                  go_wp2_with fail
                  go_roundw
                  case rel => exact ⟨j + 1, by omega, by go_num, by rw [TT.out]; try go_num, BX.out⟩
                  case measure => simp [intOf]; omega
              · rw [decide_eq_false hd] at KD
                have TT := Lib.hid (show cnt l (o0, o1, o2) (j + 1) = cnt l (o0, o1, o2) j by rw [CS.out]; simp [turn, hd])
                clear hd CS
                have z0 := KD.out _ BX.out
                obtain ⟨z1, z2, z3, z4⟩ := KY.out _ BX.out
                obtain ⟨z5, z6, z7, z8⟩ := KX.out _ BX.out
                try dsimp only at z1 z2 z3 z4 z5 z6 z7 z8
                go_wp2_with fail
                go_quiet (fail)
                clear z0 z1 z2 z3 z4 z5 z6 z7 z8
                replace BX := Lib.hid (below_drewN BX.out nq)
                generalize wr.drewN nq = wq at *
                have z0 := KD.out _ BX.out
                obtain ⟨z1, z2, z3, z4⟩ := KY.out _ BX.out
                obtain ⟨z5, z6, z7, z8⟩ := KX.out _ BX.out
                try dsimp only at z1 z2 z3 z4 z5 z6 z7 z8
                go_wp2_with fail
                go_quiet (fail)
                clear z0 z1 z2 z3 z4 z5 z6 z7 z8
                replace BX := Lib.hid (below_drewN BX.out nq)
                go_wp2_with fail
                go_roundw
                case rel => exact ⟨j + 1, by omega, by go_num, by rw [TT.out]; try go_num, BX.out⟩
                case measure => simp [intOf]; omega
            · obtain rfl : j = i + 1 := by omega
              have HN := Lib.hid ((H7).out.below BX.out)
              have RN := Lib.hid ((R7).out.of_block (BX.out.block D (R7).out.lt))
              have BN := Lib.hid (on2 (B7).out BX.out)
              have hhas := has_any (M + 1) M (i + 1) T (o0, o1, o2) _ HN.out WO.out
              obtain ⟨d0, d1, d2, d3⟩ := KC.out _ BN.out i _ HX.out
              dsimp only at d0 d1 d2 d3
              have j2 : ¬ ((i + 1 : Nat) : Int) ≤ (i : Int) := by omega
              clear hcb BX
              by_cases hm : (o0, o1, o2) ∈ T
              · have hc1 : cnt l (o0, o1, o2) (i + 1) = 1 := by rw [CM.out, ST.out, if_pos hm]
                rw [decide_eq_true hm] at hhas
                rw [hc1]
                clear hc1 hm
                go_wp2_with fail
                refine hhas.mono ?_
                rintro e w5 ⟨rfl, hb5⟩
                have H9' := Lib.hid (HN.out.below hb5)
                have R9' := Lib.hid (RN.out.of_block (hb5.block D RN.out.lt))
                have B9' := Lib.hid (on2 BN.out hb5)
                clear hb5 hhas d0 d1 d2 d3
                go_wp2_with fail
                go_roundw
                case rel => exact ⟨i + 1, by omega, by go_num, by rw [ST.out]; exact H9'.out, by rw [ST.out]; exact TU.out, R9'.out, B9'.out⟩
                case measure => simp [intOf]; omega
              · have hc1 : cnt l (o0, o1, o2) (i + 1) = 0 := by rw [CM.out, ST.out, if_neg hm]
                rw [decide_eq_false hm] at hhas
                rw [hc1]
                clear hc1 hm
                go_wp2_with fail
                refine hhas.mono ?_
                rintro e w5 ⟨rfl, hb5⟩
                have H9' := Lib.hid (HN.out.below hb5)
                have R9' := Lib.hid (RN.out.of_block (hb5.block D RN.out.lt))
                have B9' := Lib.hid (on2 BN.out hb5)
                clear hb5 hhas d0 d1 d2 d3
                go_wp2_with fail
                go_roundw
                case rel => exact ⟨i + 1, by omega, by go_num, by rw [ST.out]; exact H9'.out, by rw [ST.out]; exact TU.out, R9'.out, B9'.out⟩
                case measure => simp [intOf]; omega
        · have R7 := Lib.hid ((R6.out.set i (.bool false)).congr (fun j _ => OKS.out false (by simp [hE0]) j))
          have H7 := Lib.hid (H6.out.grownX (by omega) (by omega) (set_grown w6 D i (.bool false)))
          have B7 := Lib.hid (B6.out.setCell (p := ⟨D, i, none⟩) (show w.heap.size ≤ D by omega) (.bool false))
          have hE1 : (E == 0) = false := by simpa using hE0
          have hE2 : (E != 0) = true := by simpa using hE0
          have hTS := ERR.out hE0
          subst hTS
          clear hE0 R6 H6 B6
          go_wp2_with fail
          clear hfz hcd hE1 hE2
          generalize w6.setCell ⟨D, i, none⟩ (.bool false) = w7 at *
          have hout := out_any (M + 1) M (i + 1) T w7 H7.out TU.out (by omega) (by omega)
          go_wp2_with fail
          refine hout.mono ?_
          rintro e w8 ⟨va, rfl, hOa, hb8⟩
          obtain ⟨ab, cb, rfl, _, _⟩ := owns_form hOa
          have H8 := Lib.hid (H7.out.below hb8)
          have R8 := Lib.hid (R7.out.of_block (hb8.block D R7.out.lt))
          have B8 := Lib.hid (on2 B7.out hb8)
          clear hOa hb8 hout H7 R7 B7
          obtain ⟨d0, d1, d2, d3⟩ := KC.out _ B8.out i _ HX.out
          dsimp only at d0 d1 d2 d3
          have hhas := has_any (M + 1) M (i + 1) T (o0, o1, o2) w8 H8.out WO.out
          rw [← MB.out] at hhas
          go_wp2_with fail
          refine hhas.mono ?_
          rintro e w9 ⟨rfl, hb9⟩
          have H9 := Lib.hid (H8.out.below hb9)
          have R9 := Lib.hid (R8.out.of_block (hb9.block D R8.out.lt))
          have B9 := Lib.hid (on2 B8.out hb9)
          clear hb9 hhas H8 R8 B8 d0 d1 d2 d3
          go_wp2_with fail
          go_wp2_with fail
          go_loopw [9, 10] (fun kv jv wr => ∃ j : Nat, j ≤ i + 1 ∧ jv = .int .i64 j ∧ kv = .int .i64 (cnt l (o0, o1, o2) j) ∧ Below (w9).heap.size (w9) wr) (fun _ jv _ => i + 1 - (intOf jv).toNat)
          case atStart => exact ⟨0, Nat.zero_le _, rfl, rfl, Below.refl _ _⟩
          case round =>
            obtain ⟨j, hj, rfl, rfl, hb⟩ := hrel
            have BX := Lib.hid hb
            clear hb
            have hcb := CB.out j (by rw [HLN.out]; omega)
            by_cases hjl : j < i + 1
            · obtain ⟨⟨y0, p0, p1, p2⟩, hy⟩ : ∃ y, l[j]? = some y := ⟨_, List.getElem?_eq_getElem (by rw [HLN.out]; omega)⟩
              have CS := Lib.hid (cnt_succ (o := (o0, o1, o2)) hy)
              have KD := Lib.hid (show ∀ W : World, Below (w9).heap.size (w9) W → W.cell? ⟨D, j, none⟩ = some (.bool (decide (doE (stAt l j) (y0, p0, p1, p2) = 0))) from fun W hb => by
                have h := ((R9).out.of_block (hb.block D (R9).out.lt)).cell (i := j) (by omega)
                rw [okB_at hy (by omega)] at h; exact h)
              have KY := Lib.hid (fun W (hb : Below (w9).heap.size (w9) W) => KC.out W (on2 (B9).out hb) j _ hy)
              have KX := Lib.hid (fun W (hb : Below (w9).heap.size (w9) W) => KC.out W (on2 (B9).out hb) i _ HX.out)
              have j0 : (0 : Int) ≤ (j : Int) := by omega
              have j1 : (j : Int) < (150 : Int) := by omega
              have j2 : (j : Int) ≤ (i : Int) := by omega
              clear hy
              by_cases hd : doE (stAt l j) (y0, p0, p1, p2) = 0
              · rw [decide_eq_true hd] at KD
                by_cases hyo : (p0, p1, p2) = (o0, o1, o2)
                · have hq := eql30 (x := (p0, p1, p2)) (y := (o0, o1, o2)) true (by simpa using hyo)
                  by_cases h1 : y0 = 1
                  · have TT := Lib.hid (show cnt l (o0, o1, o2) (j + 1) = cnt l (o0, o1, o2) j + 1 by rw [CS.out]; unfold turn; rw [if_pos ⟨hd, hyo⟩, if_pos h1])
                    have e1 : (y0 == 1) = true := by simpa using h1
                    have e3 : (y0 == 3) = false := by simp; omega
                    clear h1 hyo hd CS
                    have z0 := KD.out _ BX.out
                    obtain ⟨z1, z2, z3, z4⟩ := KY.out _ BX.out
                    obtain ⟨z5, z6, z7, z8⟩ := KX.out _ BX.out
                    try dsimp only at z1 z2 z3 z4 z5 z6 z7 z8
                    go_wp2_with fail
                    go_quiet (fail)
                    clear z0 z1 z2 z3 z4 z5 z6 z7 z8
                    replace BX := Lib.hid (below_drewN BX.out nq)
                    generalize wr.drewN nq = wq at *
                    have z0 := KD.out _ BX.out
                    obtain ⟨z1, z2, z3, z4⟩ := KY.out _ BX.out
                    obtain ⟨z5, z6, z7, z8⟩ := KX.out _ BX.out
                    try dsimp only at z1 z2 z3 z4 z5 z6 z7 z8
                    go_wp2_with fail
                    go_quiet (fail)
                    clear z0 z1 z2 z3 z4 z5 z6 z7 z8
                    replace BX := Lib.hid (below_drewN BX.out nq)
                    go_wp2_with fail
                    go_roundw
                    case rel => exact ⟨j + 1, by omega, by go_num, by rw [TT.out]; try go_num, BX.out⟩
                    case measure => simp [intOf]; omega
                  · by_cases h3 : y0 = 3
                    · have TT := Lib.hid (show cnt l (o0, o1, o2) (j + 1) = cnt l (o0, o1, o2) j - 1 by rw [CS.out]; unfold turn; rw [if_pos ⟨hd, hyo⟩, if_neg h1, if_pos h3]; omega)
                      have e1 : (y0 == 1) = false := by simp; omega
                      have e3 : (y0 == 3) = true := by simpa using h3
                      clear h1 h3 hyo hd CS
                      have z0 := KD.out _ BX.out
                      obtain ⟨z1, z2, z3, z4⟩ := KY.out _ BX.out
                      obtain ⟨z5, z6, z7, z8⟩ := KX.out _ BX.out
                      try dsimp only at z1 z2 z3 z4 z5 z6 z7 z8
                      go_wp2_with fail
                      go_quiet (fail)
                      clear z0 z1 z2 z3 z4 z5 z6 z7 z8
                      replace BX := Lib.hid (below_drewN BX.out nq)
                      generalize wr.drewN nq = wq at *
                      have z0 := KD.out _ BX.out
                      obtain ⟨z1, z2, z3, z4⟩ := KY.out _ BX.out
                      obtain ⟨z5, z6, z7, z8⟩ := KX.out _ BX.out
                      try dsimp only at z1 z2 z3 z4 z5 z6 z7 z8
                      go_wp2_with fail
                      go_quiet (fail)
                      clear z0 z1 z2 z3 z4 z5 z6 z7 z8
                      replace BX := Lib.hid (below_drewN BX.out nq)
                      go_wp2_with fail
                      go_roundw
                      case rel => exact ⟨j + 1, by omega, by go_num, by rw [TT.out]; try go_num, BX.out⟩
                      case measure => simp [intOf]; omega
                    · have TT := Lib.hid (show cnt l (o0, o1, o2) (j + 1) = cnt l (o0, o1, o2) j by rw [CS.out]; simp [turn, h1, h3])
                      have e1 : (y0 == 1) = false := by simpa using h1
                      have e3 : (y0 == 3) = false := by simpa using h3
                      clear h1 h3 hyo hd CS
                      have z0 := KD.out _ BX.out
                      obtain ⟨z1, z2, z3, z4⟩ := KY.out _ BX.out
                      obtain ⟨z5, z6, z7, z8⟩ := KX.out _ BX.out
                      try dsimp only at z1 z2 z3 z4 z5 z6 z7 z8
                      go_wp2_with fail
                      go_quiet (fail)
                      clear z0 z1 z2 z3 z4 z5 z6 z7 z8
                      replace BX := Lib.hid (below_drewN BX.out nq)
                      generalize wr.drewN nq = wq at *
                      have z0 := KD.out _ BX.out
                      obtain ⟨z1, z2, z3, z4⟩ := KY.out _ BX.out
                      obtain ⟨z5, z6, z7, z8⟩ := KX.out _ BX.out
                      try dsimp only at z1 z2 z3 z4 z5 z6 z7 z8
                      go_wp2_with fail
                      go_quiet (fail)
                      clear z0 z1 z2 z3 z4 z5 z6 z7 z8
                      replace BX := Lib.hid (below_drewN BX.out nq)
                      go_wp2_with fail
                      go_roundw
                      case rel => exact ⟨j + 1, by omega, by go_num, by rw [TT.out]; try go_num, BX.out⟩
                      case measure => simp [intOf]; omega
                · have hq := eql30 (x := (p0, p1, p2)) (y := (o0, o1, o2)) false (by simpa using hyo)
                  have TT := Lib.hid (show cnt l (o0, o1, o2) (j + 1) = cnt l (o0, o1, o2) j by rw [CS.out]; simp only [turn, hyo, and_false, if_false, Int.add_zero])
                  clear hyo hd CS
                  have z0 := KD.out _ BX.out
                  obtain ⟨z1, z2, z3, z4⟩ := KY.out _ BX.out
                  obtain ⟨z5, z6, z7, z8⟩ := KX.out _ BX.out
                  try dsimp only at z1 z2 z3 z4 z5 z6 z7 z8
                  go_wp2_with fail
                  go_quiet (fail)
                  clear z0 z1 z2 z3 z4 z5 z6 z7 z8
                  replace BX := Lib.hid (below_drewN BX.out nq)
                  generalize wr.drewN nq = wq at *
                  have z0 := KD.out _ BX.out
                  obtain ⟨z1, z2, z3, z4⟩ := KY.out _ BX.out
                  obtain ⟨z5, z6, z7, z8⟩ := KX.out _ BX.out
                  try dsimp only at z1 z2 z3 z4 z5 z6 z7 z8
                  go_wp2_with fail
                  go_quiet (fail)
                  clear z0 z1 z2 z3 z4 z5 z6 z7 z8
                  replace BX := Lib.hid (below_drewN BX.out nq)
                  go_wp2_with fail
                  go_roundw
                  case rel => exact ⟨j + 1, by omega, by go_num, by rw [TT.out]; try go_num, BX.out⟩
                  case measure => simp [intOf]; omega
              · rw [decide_eq_false hd] at KD
                have TT := Lib.hid (show cnt l (o0, o1, o2) (j + 1) = cnt l (o0, o1, o2) j by rw [CS.out]; simp [turn, hd])
                clear hd CS
                have z0 := KD.out _ BX.out
                obtain ⟨z1, z2, z3, z4⟩ := KY.out _ BX.out
                obtain ⟨z5, z6, z7, z8⟩ := KX.out _ BX.out
                try dsimp only at z1 z2 z3 z4 z5 z6 z7 z8
                go_wp2_with fail
                go_quiet (fail)
                clear z0 z1 z2 z3 z4 z5 z6 z7 z8
                replace BX := Lib.hid (below_drewN BX.out nq)
                generalize wr.drewN nq = wq at *
                have z0 := KD.out _ BX.out
                obtain ⟨z1, z2, z3, z4⟩ := KY.out _ BX.out
                obtain ⟨z5, z6, z7, z8⟩ := KX.out _ BX.out
                try dsimp only at z1 z2 z3 z4 z5 z6 z7 z8
                go_wp2_with fail
                go_quiet (fail)
                clear z0 z1 z2 z3 z4 z5 z6 z7 z8
                replace BX := Lib.hid (below_drewN BX.out nq)
                go_wp2_with fail
                go_roundw
                case rel => exact ⟨j + 1, by omega, by go_num, by rw [TT.out]; try go_num, BX.out⟩
                case measure => simp [intOf]; omega
            · obtain rfl : j = i + 1 := by omega
              have HN := Lib.hid ((H9).out.below BX.out)
              have RN := Lib.hid ((R9).out.of_block (BX.out.block D (R9).out.lt))
              have BN := Lib.hid (on2 (B9).out BX.out)
              have hhas := has_any (M + 1) M (i + 1) T (o0, o1, o2) _ HN.out WO.out
              obtain ⟨d0, d1, d2, d3⟩ := KC.out _ BN.out i _ HX.out
              dsimp only at d0 d1 d2 d3
              have j2 : ¬ ((i + 1 : Nat) : Int) ≤ (i : Int) := by omega
              clear hcb BX
              by_cases hm : (o0, o1, o2) ∈ T
              · have hc1 : cnt l (o0, o1, o2) (i + 1) = 1 := by rw [CM.out, ST.out, if_pos hm]
                rw [decide_eq_true hm] at hhas
                rw [hc1]
                clear hc1 hm
                go_wp2_with fail
                refine hhas.mono ?_
                rintro e w5 ⟨rfl, hb5⟩
                have H9' := Lib.hid (HN.out.below hb5)
                have R9' := Lib.hid (RN.out.of_block (hb5.block D RN.out.lt))
                have B9' := Lib.hid (on2 BN.out hb5)
                clear hb5 hhas d0 d1 d2 d3
                go_wp2_with fail
                go_roundw
                case rel => exact ⟨i + 1, by omega, by go_num, by rw [ST.out]; exact H9'.out, by rw [ST.out]; exact TU.out, R9'.out, B9'.out⟩
                case measure => simp [intOf]; omega
              · have hc1 : cnt l (o0, o1, o2) (i + 1) = 0 := by rw [CM.out, ST.out, if_neg hm]
                rw [decide_eq_false hm] at hhas
                rw [hc1]
                clear hc1 hm
                go_wp2_with fail
                refine hhas.mono ?_
                rintro e w5 ⟨rfl, hb5⟩
                have H9' := Lib.hid (HN.out.below hb5)
                have R9' := Lib.hid (RN.out.of_block (hb5.block D RN.out.lt))
                have B9' := Lib.hid (on2 BN.out hb5)
                clear hb5 hhas d0 d1 d2 d3
                go_wp2_with fail
                go_roundw
                case rel => exact ⟨i + 1, by omega, by go_num, by rw [ST.out]; exact H9'.out, by rw [ST.out]; exact TU.out, R9'.out, B9'.out⟩
                case measure => simp [intOf]; omega
      · obtain rfl : i = 150 := by omega
        have B4 := Lib.hid BB.out
        go_wp2_with fail
        go_ret
        exact ⟨rfl, B4.out⟩
end Go.Proofs.Ythmkmjoeceghiaa
