/- The reference's tree: what its methods write. -/
import Derived.Test.YtkkjnnmjfamkjaaF
namespace Go.Proofs.Ytkkjnnmjfamkjaa
open Go.RowKit Go.Shelf

theorem info4 : (Try.prog.info? 4).map (fun i => (i.zero, i.size, i.bytes)) = some (some (.bool false), 1, 1) := by kernel_rfl
theorem upL_len (T : List Gp) : (upL T).length = T.length + 1 := by simp [upL]
theorem upL_snoc (T : List Gp) (x : Gp) : upL (T ++ [x]) = upL T ++ [.int .i64 x.1] := by simp [upL]
theorem onL_snoc (T : List Gp) (x : Gp) : onL (T ++ [x]) = onL T ++ [.bool (!x.2.2)] := by simp [onL]
theorem RfC.blks {w : World} {base R u cu o co : Nat} {T : List Gp} (h : RfC w base R u cu o co T) : R ≠ u ∧ R ≠ o ∧ u ≠ o := by
  refine ⟨fun e => own_blk h.up h.blk (by decide) (by rw [e]; rfl), fun e => own_blk h.on h.blk (by decide) (by rw [e]; rfl), fun e => ?_⟩
  rcases owns_apart h.up h.on (by decide) with h1 | h1
  · cases h1
  · exact h1 (by rw [e]; rfl)
/-- behind the append to Up -/
structure RfU (w w1 : World) (base R u' cu' o co : Nat) (T : List Gp) (p : Int) : Prop where
  blk : Blk w1 R #[.slice (some ⟨u', 0, none⟩) (T.length + 1 + 1) cu', .slice (some ⟨o, 0, none⟩) (T.length + 1) co] 54
  up : w1.ownsRow base 3 1 (.slice (some ⟨u', 0, none⟩) (T.length + 1 + 1) cu') (T.length + 1 + 1) (upL T ++ [.int .i64 p])
  on : w1.ownsRow base 4 1 (.slice (some ⟨o, 0, none⟩) (T.length + 1) co) (T.length + 1) (onL T)
  st : Step [54, 3, 4] base w w1
theorem RfC.upped {w w0 w1 : World} {base R u cu o co : Nat} {T : List Gp} {p : Int} {a' : Option Addr} {c' : Nat} (h : RfC w base R u cu o co T) (hb : base ≤ R) (h0 : Below w.heap.size w w0) (hg : w0.grownBy w1 (some u))
    (ho : w1.ownsRow base 3 1 (.slice a' (T.length + 1 + 1) c') (T.length + 1 + 1) (upL T ++ [.int .i64 p])) :
    ∃ u', a' = some ⟨u', 0, none⟩ ∧ RfU w (w1.setCell ⟨R, 0, none⟩ (.slice a' (T.length + 1 + 1) c')) base R u' c' o co T p := by
  obtain ⟨hRu, hRo, huo⟩ := h.blks
  have h' := h.below h0
  obtain ⟨u', cu', hform, hb', hlt'⟩ := ho.form (by omega)
  obtain ⟨rfl, rfl⟩ : a' = some ⟨u', 0, none⟩ ∧ c' = cu' := by injection hform with a b c; exact ⟨a, c⟩
  have b1 : Blk w1 R #[.slice (some ⟨u, 0, none⟩) (T.length + 1) cu, .slice (some ⟨o, 0, none⟩) (T.length + 1) co] 54 := h'.blk.grown hg (by simpa using hRu)
  refine ⟨u', rfl, ?_, ?_, ?_, ?_, ?_⟩
  · have := b1.set 0 (.slice (some ⟨u', 0, none⟩) (T.length + 1 + 1) c') rfl
    simpa using this
  · exact ho.kept (Only.set R 0 w1 _).g (.inr (own_blk ho b1 (by decide)))
  · have o1 : w1.ownsRow base 4 1 (.slice (some ⟨o, 0, none⟩) (T.length + 1) co) (T.length + 1) (onL T) := h'.on.kept hg (.inr (by simp [Value.ownBlock]; exact fun e => huo e.symm))
    exact o1.kept (Only.set R 0 w1 _).g (.inr (own_blk o1 b1 (by decide)))
  · exact (((h0.mono (Nat.le_trans hb (Nat.le_of_lt h.blk.lt))).grown hg (Nat.le_trans (Nat.le_trans hb (Nat.le_of_lt h.blk.lt)) h0.size) (fun k e => by cases e; exact (h.up.lt u rfl).1)).setCell (p := ⟨R, 0, none⟩) hb _)
  · exact ((KeepT.below h0).trans (KeepT.grown h'.up hg (by simp))).trans (KeepT.set b1 (by simp) 0 _)
theorem RfU.onned {w wA wB wC : World} {base R u' cu' o co : Nat} {T : List Gp} {p d : Int} {a' : Option Addr} {c' : Nat} (h : RfU w wA base R u' cu' o co T p) (hb : base ≤ R) (h0 : Below wA.heap.size wA wB) (hg : wB.grownBy wC (some o))
    (ho : wC.ownsRow base 4 1 (.slice a' (T.length + 1 + 1) c') (T.length + 1 + 1) (onL T ++ [.bool true])) :
    ∃ o', RfC (wC.setCell ⟨R, 1, none⟩ (.slice a' (T.length + 1 + 1) c')) base R u' cu' o' c' (T ++ [(p, d, false)]) ∧ Step [54, 3, 4] base w (wC.setCell ⟨R, 1, none⟩ (.slice a' (T.length + 1 + 1) c')) := by
  have uB := owns_below h.up h0
  have oB := owns_below h.on h0
  have bB := h.blk.below h0
  have hRo : R ≠ o := fun e => own_blk h.on h.blk (by decide) (by rw [e]; rfl)
  have huo : u' ≠ o := fun e => by
    rcases owns_apart h.up h.on (by decide) with h1 | h1
    · cases h1
    · exact h1 (by rw [e]; rfl)
  obtain ⟨o', co', hform, hb', hlt'⟩ := ho.form (by omega)
  obtain ⟨rfl, rfl⟩ : a' = some ⟨o', 0, none⟩ ∧ c' = co' := by injection hform with a b c; exact ⟨a, c⟩
  have b1 : Blk wC R #[.slice (some ⟨u', 0, none⟩) (T.length + 1 + 1) cu', .slice (some ⟨o, 0, none⟩) (T.length + 1) co] 54 := bB.grown hg (by simpa using hRo)
  refine ⟨o', ⟨?_, ?_, ?_⟩, ?_, ?_⟩
  · have := b1.set 1 (.slice (some ⟨o', 0, none⟩) (T.length + 1 + 1) c') rfl
    simpa using this
  · have u1 : wC.ownsRow base 3 1 (.slice (some ⟨u', 0, none⟩) (T.length + 1 + 1) cu') (T.length + 1 + 1) (upL T ++ [.int .i64 p]) := uB.kept hg (.inr (by simp [Value.ownBlock]; exact huo))
    have := u1.kept (Only.set R 1 wC (.slice (some ⟨o', 0, none⟩) (T.length + 1 + 1) c')).g (.inr (own_blk u1 b1 (by decide)))
    rw [← upL_snoc T (p, d, false)] at this
    simpa using this
  · have := ho.kept (Only.set R 1 wC (.slice (some ⟨o', 0, none⟩) (T.length + 1 + 1) c')).g (.inr (own_blk ho b1 (by decide)))
    have e : onL T ++ [.bool true] = onL (T ++ [(p, d, false)]) := (onL_snoc T (p, d, false)).symm
    rw [e] at this
    simpa using this
  · have hsz : base ≤ wA.heap.size := Nat.le_trans hb (Nat.le_of_lt h.blk.lt)
    exact ((((h.st.b).trans (h0.mono hsz)).grown hg (by have := h0.size; omega) (fun k e => by cases e; exact (h.on.lt o rfl).1)).setCell (p := ⟨R, 1, none⟩) hb _)
  · exact ((h.st.k.trans (KeepT.below h0)).trans (KeepT.grown oB hg (by simp))).trans (KeepT.set b1 (by simp) 1 _)
set_option maxRecDepth 100000 in
set_option maxHeartbeats 1000000 in
theorem radd_any (w : World) (base R : Nat) (T : List Gp) (p : Int) (h : Rf w base R T) (hp0 : IsI p) :
    Calls Try.prog 12 #[.pointer (some ⟨R, 0, none⟩), .int .i64 p] w fun e w' => e = .returned (.tuple #[.int .i64 (addT T p).1, .int .i64 (addT T p).2.1]) ∧ Rf w' base R (addT T p).2.2 ∧ Step [54, 3, 4] base w w' := by
  obtain ⟨hbR, wf, u, cu, o, co, ht⟩ := h
  have hbw : base ≤ w.heap.size := Nat.le_trans hbR (Nat.le_of_lt ht.blk.lt)
  have hh := rhas_any w base R u cu o co T p ht wf.le
  unfold hasT at hh
  obtain ⟨c0, c1⟩ := ht.cells
  have WF := Lib.hid wf
  have TT := Lib.hid ht
  have HT := Lib.hid (show Rf w base R T from ⟨hbR, wf, u, cu, o, co, ht⟩)
  have hle := wf.le
  cases hg : gAt T p with
  | none =>
    have HR := Lib.hid (show addT T p = (0, 110, T) by unfold addT; rw [hg])
    rw [hg] at hh
    clear wf ht hg
    go_enter Try.func12, Try.ntmps12
    go_wp2_with fail
    refine hh.mono ?_
    rintro e w1 ⟨rfl, rfl⟩
    clear hh
    go_wp2_with fail
    go_ret2
    rw [HR.out]
    exact ⟨rfl, HT.out, Step.refl _ _ _⟩
  | some x =>
    have hb := gAt_lt hg
    have c3 := ht.onAt hg
    have j0 : 0 ≤ p := by omega
    have j1 : p < (T.length : Int) + 1 := by omega
    have hpr := wf.parent hg
    rw [hg] at hh
    obtain ⟨px, dx, ox⟩ := x
    simp only at c3 hpr
    cases ox with
    | true =>
      have HR := Lib.hid (show addT T p = (0, 110, T) by unfold addT; rw [hg]; rfl)
      clear wf ht hg hb
      go_enter Try.func12, Try.ntmps12
      go_wp2_with fail
      refine hh.mono ?_
      rintro e w1 ⟨rfl, rfl⟩
      clear hh
      go_wp2_with fail
      go_ret2
      rw [HR.out]
      exact ⟨rfl, HT.out, Step.refl _ _ _⟩
    | false =>
      have hm := rmany_any w base R u cu o co T ht hle
      by_cases h16 : T.length = 16
      · have HR := Lib.hid (show addT T p = (0, 5, T) by unfold addT; rw [hg]; simp [h16])
        have hb16 : ((T.length : Int) == 16) = true := by simp; omega
        clear wf ht hg hb
        go_enter Try.func12, Try.ntmps12
        go_wp2_with fail
        refine hh.mono ?_
        rintro e w1 ⟨rfl, rfl⟩
        clear hh
        go_wp2_with fail
        refine hm.mono ?_
        rintro e w1 ⟨rfl, rfl⟩
        clear hm
        go_wp2_with fail
        go_ret2
        rw [HR.out]
        exact ⟨rfl, HT.out, Step.refl _ _ _⟩
      · have hb16 : ((T.length : Int) == 16) = false := by simp; omega
        have hd := rdepth_any w base R u cu o co T p ht wf hp0
        rw [show depthT T p = dx by unfold depthT; rw [hg]] at hd
        by_cases h8 : dx = 8
        · have HR := Lib.hid (show addT T p = (0, 5, T) by unfold addT; rw [hg]; simp [h8])
          have hb8 : (dx == 8) = true := by simpa using h8
          have H8 := Lib.hid h8
          clear wf ht hg hb h8 h16
          go_enter Try.func12, Try.ntmps12
          go_wp2_with fail
          refine hh.mono ?_
          rintro e w1 ⟨rfl, rfl⟩
          clear hh
          go_wp2_with fail
          refine hm.mono ?_
          rintro e w1 ⟨rfl, rfl⟩
          clear hm
          go_wp2_with fail
          refine hd.mono ?_
          rintro e w1 ⟨rfl, hb1⟩
          clear hd
          have KR := Lib.hid (HT.out.below hb1)
          have KS := Lib.hid (Step.below (ts := [54, 3, 4]) hb1 hbw)
          clear hb1 c0 c1 c3
          go_wp2_with fail
          go_ret2
          rw [HR.out]
          exact ⟨rfl, KR.out, KS.out⟩
        · have HR := Lib.hid (show addT T p = ((T.length : Int) + 1, (0 : Int), T ++ [(p, dx + 1, false)]) by unfold addT; rw [hg]; simp [h16, h8])
          have hb8 : (dx == 8) = false := by simpa using h8
          have WF2 := Lib.hid (show WfT (T ++ [(p, dx + 1, false)]) from by have := addT_wf wf p; rwa [HR.out] at this)
          have h15 : T.length ≤ 15 := by omega
          clear wf ht hg hb h8 h16
          obtain ⟨i0, hi, hz0, hz1, hz2⟩ := info_parts info3
          obtain ⟨k0, ki, kz0, kz1, kz2⟩ := info_parts info4
          go_enter Try.func12, Try.ntmps12
          go_wp2_with fail
          refine hh.mono ?_
          rintro e w1 ⟨rfl, rfl⟩
          clear hh
          go_wp2_with fail
          refine hm.mono ?_
          rintro e w1 ⟨rfl, rfl⟩
          clear hm
          go_wp2_with fail
          refine hd.mono ?_
          rintro e w2 ⟨rfl, hb1⟩
          clear hd
          have HR2 := Lib.hid (TT.out.below hb1)
          have KS := Lib.hid (Step.below (ts := [54, 3, 4]) hb1 hbw)
          have hs2 := hb1.size
          clear hb1 c0 c1 c3
          obtain ⟨c0, c1⟩ := HR2.out.cells
          have f0 := HR2.out.blk.frozen 0
          go_wp2_with (first | (at_builtin; refine wpList_append_own _ rfl (.tmp 33) (.tmp 35) 39 rfl base 3 i0 _ 1 8 Try.underlying39 hi hz0 hz1 hz2 rfl (by omega) _ _ _ rfl (HR2.out.up.alloc _) ⟨w2.heap.size, 0, none⟩ 1 1 [encI p] rfl rfl (cell_one_new _ _ _) (by simp [Value.oneCell', encI]) (by unfold maxLen; omega) (by omega) (by simp; omega) ?_; intro v' w3 hown' hgrow _; replace hgrow : (w2.alloc (.cells #[.int .i64 p] 3)).grownBy w3 (some u) := hgrow; obtain ⟨a', c', rfl, -, -⟩ := owns_form hown'; obtain ⟨u', rfl, hU⟩ := HR2.out.upped hbR ((Below.refl _ w2).alloc (Nat.le_refl _) _) hgrow hown'; have hlR := HR2.out.blk.lt; have hRu := HR2.out.blks.1; have f3 : w3.frozen? ⟨R, 0, none⟩ = false := (by rw [hgrow.frozen_far _ (by simp; omega) (by simpa using hRu)]; exact (frz_ad' _ _ _ hlR).trans f0); have c3 : w3.cell? ⟨R, 0, none⟩ = some (.slice (some ⟨u, 0, none⟩) (T.length + 1) cu) := (by rw [hgrow.cell_far _ (by simp; omega) (by simpa using hRu), cel_ad' _ _ _ hlR, c0]); have hs3 := hgrow.size; rw [World.size_alloc] at hs3; have d1 : (w3.setCell ⟨R, 0, none⟩ (.slice (some ⟨u', 0, none⟩) (T.length + 1 + 1) c')).cell? ⟨R, 1, none⟩ = some (.slice (some ⟨o, 0, none⟩) (T.length + 1) co) := (by simpa using hU.blk.cell (i := 1) rfl); clear hown' hgrow) | (at_builtin; refine wpList_append_own _ rfl (.tmp 43) (.tmp 44) 52 rfl base 4 k0 _ 1 1 Try.underlying52 ki kz0 kz1 kz2 rfl (by omega) _ _ _ rfl (hU.on.alloc _) ⟨w3.heap.size, 0, none⟩ 1 1 [.bool true] rfl rfl (by simpa using cell_one_new (w3.setCell ⟨R, 0, none⟩ (.slice (some ⟨u', 0, none⟩) (T.length + 1 + 1) c')) (.bool true) 4) (by simp [Value.oneCell']) (by unfold maxLen; omega) (by omega) (by simp; omega) ?_; intro v' w4 hown' hgrow _; replace hgrow : ((w3.setCell ⟨R, 0, none⟩ (.slice (some ⟨u', 0, none⟩) (T.length + 1 + 1) c')).alloc (.cells #[.bool true] 4)).grownBy w4 (some o) := hgrow; obtain ⟨a2, c2, rfl, -, -⟩ := owns_form hown'; obtain ⟨o', hV⟩ := hU.onned (d := dx + 1) hbR ((Below.refl _ _).alloc (Nat.le_refl _) _) hgrow hown'; have hRo := HR2.out.blks.2.1; have f4 : w4.frozen? ⟨R, 1, none⟩ = false := (by rw [hgrow.frozen_far _ (by simp; omega) (by simpa using hRo)]; exact (frz_ad' _ _ _ hU.blk.lt).trans (hU.blk.frozen 1)); have d4 : w4.cell? ⟨R, 1, none⟩ = some (.slice (some ⟨o, 0, none⟩) (T.length + 1) co) := (by rw [hgrow.cell_far _ (by simp; omega) (by simpa using hRo), cel_ad' _ _ _ hU.blk.lt, d1]); clear hown' hgrow))
          have V1 := Lib.hid hV.1
          have V2 := Lib.hid hV.2
          have hm := rmany_any _ base R u' c' o' c2 _ hV.1 (by simp; omega)
          clear hV hU c0 c1 c3 d1 d4 f0 f3 f4
          generalize w4.setCell ⟨R, 1, none⟩ (.slice a2 (T.length + 1 + 1) c2) = W9 at *
          refine hm.mono ?_
          rintro e w1 ⟨rfl, rfl⟩
          clear hm
          go_wp2_with fail
          go_ret2
          rw [HR.out]
          exact ⟨by simp, ⟨hbR, WF2.out, u', c', o', c2, V1.out⟩, KS.out.trans V2.out⟩
theorem upL_set {T : List Gp} {k : Nat} {x : Gp} (h : T[k]? = some x) (b : Bool) : upL (T.set k (x.1, x.2.1, b)) = upL T := by
  unfold upL
  rw [List.map_set]
  congr 1
  refine List.ext_getElem? fun i => ?_
  rw [List.getElem?_set]
  split
  · rename_i e
    subst e
    rw [List.getElem?_map, h]
    have := (List.getElem?_eq_some_iff.1 h).1
    simp [this]
  · rfl
theorem onL_set {T : List Gp} {k : Nat} {x : Gp} : onL (T.set k (x.1, x.2.1, true)) = (onL T).set (k + 1) (.bool false) := by
  unfold onL
  rw [List.map_set, List.set_cons_succ]; rfl
theorem RfC.offed {w : World} {base R u cu o co : Nat} {T : List Gp} {g : Int} {x : Gp} (h : RfC w base R u cu o co T) (hg : gAt T g = some x) :
    RfC (w.setCell ⟨o, g.toNat, none⟩ (.bool false)) base R u cu o co (T.set (g.toNat - 1) (x.1, x.2.1, true)) ∧ Step [54, 3, 4] base w (w.setCell ⟨o, g.toNat, none⟩ (.bool false)) := by
  obtain ⟨hRu, hRo, huo⟩ := h.blks
  obtain ⟨l1, l2, l3⟩ := gAt_lt hg
  rw [show (g - 1).toNat = g.toNat - 1 by omega] at l3
  refine ⟨⟨?_, ?_, ?_⟩, ?_, ?_⟩
  · have := h.blk.setOther (a := ⟨o, g.toNat, none⟩) hRo (.bool false)
    simpa using this
  · have := h.up.kept (Only.set o g.toNat w (.bool false)).g (.inr (by simp [Value.ownBlock]; exact huo))
    rw [← upL_set l3 true] at this
    simpa using this
  · have := owns_set h.on g.toNat (.bool false)
    rw [show g.toNat = (g.toNat - 1) + 1 by omega, ← onL_set (x := x)] at this
    rw [show (g.toNat - 1) + 1 = g.toNat by omega] at this
    simpa using this
  · exact (Below.refl _ _).setCell (p := ⟨o, _, none⟩) (h.on.lt o rfl).1 _
  · exact KeepT.grown h.on (by have := (Only.set o g.toNat w (.bool false)).g; exact this) (by simp)
set_option maxRecDepth 100000 in
set_option maxHeartbeats 1000000 in
theorem roff_any (w : World) (base R : Nat) (T : List Gp) (g : Int) (h : Rf w base R T) :
    Calls Try.prog 14 #[.pointer (some ⟨R, 0, none⟩), .int .i64 g] w fun e w' => e = .returned (.int .i64 (offT T g).1) ∧ Rf w' base R (offT T g).2 ∧ Step [54, 3, 4] base w w' := by
  obtain ⟨hbR, wf, u, cu, o, co, ht⟩ := h
  have hh := rhas_any w base R u cu o co T g ht wf.le
  unfold hasT at hh
  obtain ⟨c0, c1⟩ := ht.cells
  have HT := Lib.hid (show Rf w base R T from ⟨hbR, wf, u, cu, o, co, ht⟩)
  have hle := wf.le
  cases hg : gAt T g with
  | none =>
    have HR := Lib.hid (show offT T g = (110, T) by unfold offT; rw [hg])
    rw [hg] at hh
    clear wf ht hg
    go_enter Try.func14, Try.ntmps14
    go_wp2_with fail
    refine hh.mono ?_
    rintro e w1 ⟨rfl, rfl⟩
    clear hh
    go_wp2_with fail
    go_ret
    rw [HR.out]
    exact ⟨rfl, HT.out, Step.refl _ _ _⟩
  | some x =>
    have hb := gAt_lt hg
    have c3 := ht.onAt hg
    have f3 := owns_frozen ht.on g.toNat
    have j0 : 0 ≤ g := by omega
    have j1 : g < (T.length : Int) + 1 := by omega
    rw [hg] at hh
    obtain ⟨px, dx, ox⟩ := x
    simp only at c3
    by_cases h1 : g = 1
    · have hb1 : (g == 1) = true := by simpa using h1
      have HR := Lib.hid (show offT T g = (292, T) by unfold offT; rw [hg]; simp [h1])
      clear wf ht hg hb h1
      go_enter Try.func14, Try.ntmps14
      go_wp2_with fail
      refine hh.mono ?_
      rintro e w1 ⟨rfl, rfl⟩
      clear hh
      go_wp2_with fail
      go_ret
      rw [HR.out]
      exact ⟨rfl, HT.out, Step.refl _ _ _⟩
    · have hb1 : (g == 1) = false := by simpa using h1
      cases ox with
      | true =>
        have HR := Lib.hid (show offT T g = (292, T) by unfold offT; rw [hg]; simp)
        clear wf ht hg hb h1
        go_enter Try.func14, Try.ntmps14
        go_wp2_with fail
        refine hh.mono ?_
        rintro e w1 ⟨rfl, rfl⟩
        clear hh
        go_wp2_with fail
        go_ret
        rw [HR.out]
        exact ⟨rfl, HT.out, Step.refl _ _ _⟩
      | false =>
        have HR := Lib.hid (show offT T g = (0, T.set (g.toNat - 1) (px, dx, true)) by unfold offT; rw [hg]; simp [h1])
        have WF2 := Lib.hid (show WfT (T.set (g.toNat - 1) (px, dx, true)) from by have := offT_wf wf g; rwa [HR.out] at this)
        have hA := ht.offed hg
        have A1 := Lib.hid hA.1
        have A2 := Lib.hid hA.2
        clear wf ht hg h1 hA hb
        go_enter Try.func14, Try.ntmps14
        go_wp2_with fail
        refine hh.mono ?_
        rintro e w1 ⟨rfl, rfl⟩
        clear hh
        go_wp2_with fail
        go_ret
        rw [HR.out]
        exact ⟨rfl, ⟨hbR, WF2.out, u, cu, o, co, A1.out⟩, A2.out⟩
set_option maxRecDepth 100000 in
set_option maxHeartbeats 1000000 in
theorem rnew_any (w : World) (base : Nat) (hb : base ≤ w.heap.size) :
    Calls Try.prog 9 #[] w fun e w' => ∃ R, e = .returned (.pointer (some ⟨R, 0, none⟩)) ∧ Rf w' base R newT ∧ Below w.heap.size w w' := by
  go_enter Try.func9, Try.ntmps9
  go_wp2_with fail
  go_ret
  have b3 : Blk (((w.alloc (.cells #[.int .i64 0, .int .i64 0] 3)).alloc (.cells #[.bool false, .bool true] 4)).alloc (.cells #[.slice (some ⟨w.heap.size, 0, none⟩) 2 2, .slice (some ⟨w.heap.size + 1, 0, none⟩) 2 2] 54)) (w.heap.size + 2) #[.slice (some ⟨w.heap.size, 0, none⟩) 2 2, .slice (some ⟨w.heap.size + 1, 0, none⟩) 2 2] 54 := by
    have := Blk.new ((w.alloc (.cells #[.int .i64 0, .int .i64 0] 3)).alloc (.cells #[.bool false, .bool true] 4)) #[.slice (some ⟨w.heap.size, 0, none⟩) 2 2, .slice (some ⟨w.heap.size + 1, 0, none⟩) 2 2] 54
    rwa [World.size_alloc, World.size_alloc] at this
  have b1 := ((Blk.new w #[.int .i64 0, .int .i64 0] 3).alloc (.cells #[.bool false, .bool true] 4)).alloc (.cells #[.slice (some ⟨w.heap.size, 0, none⟩) 2 2, .slice (some ⟨w.heap.size + 1, 0, none⟩) 2 2] 54)
  have b2 : Blk ((w.alloc (.cells #[.int .i64 0, .int .i64 0] 3)).alloc (.cells #[.bool false, .bool true] 4)) (w.heap.size + 1) #[.bool false, .bool true] 4 := by
    have := Blk.new (w.alloc (.cells #[.int .i64 0, .int .i64 0] 3)) #[.bool false, .bool true] 4
    rwa [World.size_alloc] at this
  have b2' := b2.alloc (.cells #[.slice (some ⟨w.heap.size, 0, none⟩) 2 2, .slice (some ⟨w.heap.size + 1, 0, none⟩) 2 2] 54)
  exact ⟨_, rfl, ⟨by omega, newT_wf, w.heap.size, 2, w.heap.size + 1, 2, b3, ⟨rfl, .inr ⟨_, 2, _, rfl, hb, b1, Nat.le_refl _, by simp [maxLen], rfl, rfl⟩⟩, ⟨rfl, .inr ⟨_, 2, _, rfl, by omega, b2', Nat.le_refl _, by simp [maxLen], rfl, rfl⟩⟩⟩, (by repeat (first | exact Below.refl _ _ | assumption | refine Below.setCell ?_ (by first | omega | (simp; done) | (simp; omega)) _ | refine Below.drew ?_ | refine Below.alloc ?_ (by first | omega | (simp; done) | (simp; omega)) _ | refine Below.trans ?_ (Below.mono (by assumption) (by first | omega | (simp; done) | (simp; omega)))))⟩
end Go.Proofs.Ytkkjnnmjfamkjaa
