/- TapeApart. -/
import Derived.Test.YtdjhkiahpidldaaV
import Derived.Test.YtdjhkiahpidldaaW
import Derived.Test.YtdjhkiahpidldaaX
namespace Go.Proofs.Ytdjhkiahpidldaa
open Go.RowKit

attribute [local go_sem ↓] Go.wp_at_zero Go.wp_at_succ
theorem eqbytes_at (xs ys : List Int) (r : Bool) (a c : Option Addr) (la lc ka kc : Nat) (w : World) (h1 : xs.length = la) (h2 : ys.length = lc) (hr : decide (xs = ys) = r) (bx : IsBytes xs) (bY : IsBytes ys) (hx : IsSl encU w a xs) (hy : IsSl encU w c ys) :
    Calls Try.prog 13 #[.slice a la ka, .slice c lc kc] w fun e w' => e = .returned (.bool r) ∧ Below w.heap.size w w' := by
  subst h1 h2 hr
  refine (eqbytes_any xs ys a c ka kc w bx bY hx hy).mono ?_
  rintro e w' ⟨rfl, rfl⟩
  exact ⟨rfl, Below.refl _ _⟩
theorem own_some {w : World} {base : Nat} {e : TypeId} {a : Option Addr} {n cap : Nat} {xs : List Value} (h : w.ownsRow base e 1 (.slice a n cap) n xs) (hn : 0 < n) : ∃ g, a = some ⟨g, 0, none⟩ := by
  obtain ⟨g, cg, hv, _⟩ := h.form hn
  injection hv with h1
  exact ⟨g, h1⟩
theorem wf_u8 {n : Int} (h : (Lit.int .u8 n).wf = true) : 0 ≤ n ∧ n ≤ 255 := by
  simpa [Lit.wf, IntKind.min, IntKind.max, IntKind.signed, IntKind.bits] using h
theorem chk_of (s : Scr) : chkE s = if validB s = true then 0 else 2 := rfl
set_option maxRecDepth 100000 in
set_option maxHeartbeats 1000000 in
theorem tapeapart_any (v1 v2 : Value) (s t : Scr) (m : Int) (w : World) (h1 : ScrAt w v1 s) (h2 : ScrAt w v2 t) (hn : ScrNil w v1) (hm0 : 0 ≤ m) (hm1 : m ≤ 255) :
    Calls Try.prog 7 #[v1, v2, .int .u8 m] w fun e w' => e = .returned (.bool true) ∧ Below w.heap.size w w' := by
  obtain ⟨a1, cc1, ap1, cp1, rfl, hl1, hp1⟩ := h1.val
  obtain ⟨a2, cc2, ap2, cp2, rfl, hl2, hp2⟩ := h2.val
  have hnil1 := (hn _ _ _ _ _ _ _ _ rfl).1
  have hB0 : Below w.heap.size w ((w.alloc (.cells #[.int .i64 s.cpus, .int .i64 s.pages, .slice a1 s.calls.length cc1, .slice ap1 s.picks.length cp1] 27)).alloc (.cells #[.int .i64 t.cpus, .int .i64 t.pages, .slice a2 t.calls.length cc2, .slice ap2 t.picks.length cp2] 27)) := ((Below.refl _ _).alloc (Nat.le_refl _) _).alloc (by simp) _
  have S1 := Lib.hid (h1.below hB0)
  have S2 := Lib.hid (h2.below hB0)
  have P1 := Lib.hid (hp1.below hB0)
  have BW := Lib.hid hB0
  have T1 := Lib.hid ((Blk.new w #[.int .i64 s.cpus, .int .i64 s.pages, .slice a1 s.calls.length cc1, .slice ap1 s.picks.length cp1] 27).alloc (.cells #[.int .i64 t.cpus, .int .i64 t.pages, .slice a2 t.calls.length cc2, .slice ap2 t.picks.length cp2] 27))
  have T2 := Lib.hid (show Blk ((w.alloc (.cells #[.int .i64 s.cpus, .int .i64 s.pages, .slice a1 s.calls.length cc1, .slice ap1 s.picks.length cp1] 27)).alloc (.cells #[.int .i64 t.cpus, .int .i64 t.pages, .slice a2 t.calls.length cc2, .slice ap2 t.picks.length cp2] 27)) (w.heap.size + 1) #[.int .i64 t.cpus, .int .i64 t.pages, .slice a2 t.calls.length cc2, .slice ap2 t.picks.length cp2] 27 from by
    have := Blk.new (w.alloc (.cells #[.int .i64 s.cpus, .int .i64 s.pages, .slice a1 s.calls.length cc1, .slice ap1 s.picks.length cp1] 27)) #[.int .i64 t.cpus, .int .i64 t.pages, .slice a2 t.calls.length cc2, .slice ap2 t.picks.length cp2] 27
    simpa using this)
  have hc1 := h1.lc
  have hc2 := h2.lc
  have hlp1 := hp1.len
  have hlp2 := hp2.len
  clear h1 h2 hl1 hp1 hl2 hp2 hn hB0
  obtain ⟨i0, hi, hz0, hz1, hz2⟩ := info_parts info5
  obtain ⟨k0, hk, hy0, hy1, hy2⟩ := info_parts info3
  go_enter Try.func7, Try.ntmps7
  go_wp2_with fail
  generalize (w.alloc (.cells #[.int .i64 s.cpus, .int .i64 s.pages, .slice a1 s.calls.length cc1, .slice ap1 s.picks.length cp1] 27)).alloc (.cells #[.int .i64 t.cpus, .int .i64 t.pages, .slice a2 t.calls.length cc2, .slice ap2 t.picks.length cp2] 27) = W at *
  refine (bytes_at _ s 0 _ _ S1.out rfl).mono ?_
  rintro e w3 ⟨ac, capc, rfl, ho, hca, hcm, hb⟩
  have HN := Lib.hid (fun h : 0 < (bytesE s).length => own_some ho h)
  have I1 := Lib.hid (isSl_of_own ho rfl)
  replace S1 := Lib.hid (S1.out.below hb)
  replace S2 := Lib.hid (S2.out.below hb)
  replace P1 := Lib.hid (P1.out.below hb)
  replace T1 := Lib.hid (T1.out.below hb)
  replace T2 := Lib.hid (T2.out.below hb)
  replace BW := Lib.hid (on BW.out hb)
  clear ho hb
  have q2 := tcells T2.out
  obtain ⟨x0, x1, x2, x3⟩ := q2
  go_wp2_with fail
  refine (bytes_at _ t 0 _ _ S2.out rfl).mono ?_
  rintro e w4 ⟨ac2, capc2, rfl, ho, hca2, hcm2, hb⟩
  have I2 := Lib.hid (isSl_of_own ho rfl)
  replace I1 := Lib.hid (I1.out.below hb)
  replace S1 := Lib.hid (S1.out.below hb)
  replace S2 := Lib.hid (S2.out.below hb)
  replace P1 := Lib.hid (P1.out.below hb)
  replace T1 := Lib.hid (T1.out.below hb)
  replace T2 := Lib.hid (T2.out.below hb)
  replace BW := Lib.hid (on BW.out hb)
  clear ho hb x0 x1 x2 x3
  obtain ⟨bv1, hbv1⟩ : ∃ b, validB s = b := ⟨_, rfl⟩
  obtain ⟨bv2, hbv2⟩ : ∃ b, validB t = b := ⟨_, rfl⟩
  cases bv1 with
  | false =>
    have hE1 : chkE s = 2 := by rw [chk_of, hbv1]; rfl
    rw [hE1]
    clear hbv1 hbv2 hE1
    go_wp2_with fail
    refine (works_any w4).mono ?_
    rintro e wz ⟨rfl, hbz⟩
    have BZ := Lib.hid (on BW.out hbz)
    clear hbz
    go_wp2_with fail
    go_ret
    exact ⟨rfl, BZ.out⟩
  | true => cases bv2 with
    | false =>
      have hE1 : chkE s = 0 := by rw [chk_of, hbv1]; rfl
      have hE2 : chkE t = 2 := by rw [chk_of, hbv2]; rfl
      rw [hE1, hE2]
      clear hbv1 hbv2 hE1 hE2
      go_wp2_with fail
      refine (works_any w4).mono ?_
      rintro e wz ⟨rfl, hbz⟩
      have BZ := Lib.hid (on BW.out hbz)
      clear hbz
      go_wp2_with fail
      go_ret
      exact ⟨rfl, BZ.out⟩
    | true =>
      obtain ⟨r, hr⟩ : ∃ r, sameB s t = r := ⟨_, rfl⟩
      have HR := Lib.hid (show decide (bytesE s = bytesE t) = r from (bytes_inj hbv1 hbv2).trans hr)
      have HR2 := Lib.hid hr
      have hlen := bytesE_len hbv1
      obtain ⟨-, -, -, hpl, -, -⟩ := valid_parts hbv1
      have HT := Lib.hid (scr_tail hbv1 [m])
      have hE1 : chkE s = 0 := by rw [chk_of, hbv1]; rfl
      have hE2 : chkE t = 0 := by rw [chk_of, hbv2]; rfl
      rw [hE1, hE2]
      clear hbv1 hbv2 hr hE1 hE2
      go_wp2_with fail
      have TB := Lib.hid (show Blk w4.drew w.heap.size #[.int .i64 s.cpus, .int .i64 s.pages, .slice a1 s.calls.length cc1, .slice ap1 s.picks.length cp1] 27 from T1.out)
      have TC := Lib.hid (show Blk w4.drew (w.heap.size + 1) #[.int .i64 t.cpus, .int .i64 t.pages, .slice a2 t.calls.length cc2, .slice ap2 t.picks.length cp2] 27 from T2.out)
      replace S1 := Lib.hid (S1.out.below (Below.refl _ w4).drew)
      replace S2 := Lib.hid (S2.out.below (Below.refl _ w4).drew)
      replace I1 := Lib.hid (I1.out.below (Below.refl _ w4).drew)
      replace I2 := Lib.hid (I2.out.below (Below.refl _ w4).drew)
      replace P1 := Lib.hid (P1.out.below (Below.refl _ w4).drew)
      replace BW := Lib.hid BW.out.drew
      have hHB := And.intro (tcells TB.out) (tcells TC.out)
      clear T1 T2
      refine till_start 6 (fun w' : World => (w'.cell? ⟨w.heap.size, 0, none⟩ = some (.int .i64 s.cpus) ∧ w'.cell? ⟨w.heap.size, 1, none⟩ = some (.int .i64 s.pages) ∧ w'.cell? ⟨w.heap.size, 2, none⟩ = some (.slice a1 s.calls.length cc1) ∧ w'.cell? ⟨w.heap.size, 3, none⟩ = some (.slice ap1 s.picks.length cp1)) ∧ (w'.cell? ⟨w.heap.size + 1, 0, none⟩ = some (.int .i64 t.cpus) ∧ w'.cell? ⟨w.heap.size + 1, 1, none⟩ = some (.int .i64 t.pages) ∧ w'.cell? ⟨w.heap.size + 1, 2, none⟩ = some (.slice a2 t.calls.length cc2) ∧ w'.cell? ⟨w.heap.size + 1, 3, none⟩ = some (.slice ap2 t.picks.length cp2))) (by kernel_rfl) ?_
      generalize w4.drew = w5 at *
      refine till_take (i := 0) (v := ?_) rfl (by kernel_rfl) (by kernel_rfl) (by kernel_rfl) (by kernel_rfl) (fun _ _ _ h => h) (Or.inl ⟨by rfl, ?_⟩) hHB ?_
      rotate_left
      · (intro w hSw; (try dsimp only at hSw); go_simp; try with_reducible rfl)
      try simp only [Act.put, List.setIfInBounds_toArray, List.set_cons_zero, List.set_cons_succ]
      refine till_take (i := 1) (v := ?_) rfl (by kernel_rfl) (by kernel_rfl) (by kernel_rfl) (by kernel_rfl) (fun _ _ _ h => h) (Or.inl ⟨by rfl, ?_⟩) hHB ?_
      rotate_left
      · (intro w hSw; (try dsimp only at hSw); go_simp; try with_reducible rfl)
      try simp only [Act.put, List.setIfInBounds_toArray, List.set_cons_zero, List.set_cons_succ]
      refine till_take (i := 3) (v := ?_) rfl (by kernel_rfl) (by kernel_rfl) (by kernel_rfl) (by kernel_rfl) (fun _ _ _ h => h) (Or.inl ⟨by rfl, ?_⟩) hHB ?_
      rotate_left
      · (intro w hSw; (try dsimp only at hSw); go_simp; try with_reducible rfl)
      try simp only [Act.put, List.setIfInBounds_toArray, List.set_cons_zero, List.set_cons_succ]
      refine till_take (i := 4) (v := ?_) rfl (by kernel_rfl) (by kernel_rfl) (by kernel_rfl) (by kernel_rfl) (fun _ _ _ h => h) (Or.inl ⟨by rfl, ?_⟩) hHB ?_
      rotate_left
      · (intro w hSw; (try dsimp only at hSw); go_simp; try with_reducible rfl)
      try simp only [Act.put, List.setIfInBounds_toArray, List.set_cons_zero, List.set_cons_succ]
      refine till_one (i := 2) (by kernel_rfl) rfl (fun K hK => ?_)
      go_simp
      refine (eqbytes_at (bytesE s) (bytesE t) r _ _ _ _ _ _ w5 rfl rfl HR.out (bytesE_is s) (bytesE_is t) I1.out I2.out).mono ?_
      rintro e w6 ⟨rfl, hb⟩
      replace S1 := Lib.hid (S1.out.below hb)
      replace S2 := Lib.hid (S2.out.below hb)
      replace I1 := Lib.hid (I1.out.below hb)
      replace P1 := Lib.hid (P1.out.below hb)
      replace TB := Lib.hid (TB.out.below hb)
      replace TC := Lib.hid (TC.out.below hb)
      replace BW := Lib.hid (on BW.out hb)
      replace hHB := And.intro (tcells TB.out) (tcells TC.out)
      clear hb I2
      try go_wp2_with fail
      refine hK.out _ _ (fun _ => hHB) ?_
      clear hK K
      try simp only [Act.put, List.setIfInBounds_toArray, List.set_cons_zero, List.set_cons_succ]
      refine till_one (i := 5) (by kernel_rfl) rfl (fun K hK => ?_)
      go_simp
      refine (same20_any _ _ s t w6 S1.out S2.out).mono ?_
      rintro e w7 ⟨rfl, hb⟩
      rw [HR2.out]
      replace I1 := Lib.hid (I1.out.below hb)
      replace P1 := Lib.hid (P1.out.below hb)
      replace TB := Lib.hid (TB.out.below hb)
      replace TC := Lib.hid (TC.out.below hb)
      replace BW := Lib.hid (on BW.out hb)
      replace hHB := And.intro (tcells TB.out) (tcells TC.out)
      clear hb S1 S2
      try go_wp2_with fail
      refine hK.out _ _ (fun _ => hHB) ?_
      clear hK K
      try simp only [Act.put, List.setIfInBounds_toArray, List.set_cons_zero, List.set_cons_succ]
      refine till_one (i := 6) (by kernel_rfl) rfl (fun K hK => ?_)
      go_simp
      refine hK.out _ _ (fun h => absurd rfl h) ?_
      clear hK K hHB
      try simp only [Act.put, List.setIfInBounds_toArray, List.set_cons_zero, List.set_cons_succ]
      refine till_done (by kernel_rfl) ?_ _
      have hnn : (r != r) = false := by cases r <;> rfl
      obtain ⟨g, rfl⟩ := HN.out (by omega)
      go_wp2_with fail
      refine (copybytes_any (bytesE s) _ capc w7 I1.out (fun e => by cases e) (by omega)).mono ?_
      rintro e w8 ⟨v8, rfl, ho, hb⟩
      obtain ⟨a8, c8, rfl, h8a, h8b⟩ := owns_form ho
      have hs8 := hb.size
      have O8 := Lib.hid ho
      have B8 := Lib.hid hb
      clear hb ho hnn HR HR2 I1 TC
      go_wp2_with (at_builtin; refine wpList_append_own _ rfl _ _ 22 rfl w7.heap.size 5 i0 (.int .u8 0) 1 1 Try.underlying22 hi hz0 hz1 hz2 rfl (by decide) _ _ _ rfl (O8.out.alloc _) ⟨w8.heap.size, 0, none⟩ 1 1 [.int .u8 m] rfl rfl (cell_one_new _ _ _) (by simp [Value.oneCell']) (by unfold maxLen; omega) (by omega) (by simp; omega) ?_; intro v' w9 hown' hgrow _; obtain ⟨a9, c9, rfl, h9a, h9b⟩ := owns_form hown')
      have hB9 : Below w7.heap.size w7 w9 := (B8.out.alloc hs8 _).grown hgrow (by simp; omega) (fun j ej => (O8.out.lt j ej).1)
      have HB9 := Lib.hid hB9
      have O9 := Lib.hid (show w9.ownsRow w7.heap.size 5 1 (.slice a9 ((bytesE s).length + 1) c9) ((bytesE s).length + 1) ((bytesE s ++ [m]).map encU) by rw [List.map_append]; exact hown')
      have hby : IsBytes (bytesE s ++ [m]) := fun x hx => by
        rcases List.mem_append.1 hx with h | h
        · exact bytesE_is s x h
        · obtain rfl : x = m := by simpa using h
          exact ⟨hm0, hm1⟩
      have HBY := Lib.hid hby
      clear hB9 hgrow hown' O8 B8 hs8 hby
      refine (script_at (bytesE s ++ [m]) a9 _ c9 w9 (by simp) HBY.out (isSl_of_own O9.out (by simp)) h9a (by unfold maxLen at h9b; omega)).mono ?_
      rintro e w10 ⟨v10, rfl, hs, hb⟩
      have hS := hs.at HBY.out
      rw [HT.out] at hS
      obtain ⟨a10, cc10, ap10, cp10, rfl, hl10, hp10⟩ := hS.val
      dsimp only at hp10
      have hbw : Below w7.heap.size w7 w10 := HB9.out.trans (hb.mono HB9.out.size)
      obtain ⟨P', hP'⟩ : ∃ P' : List Int, P' = (s.picks ++ [m]).take 4096 := ⟨_, rfl⟩
      have hPl : P'.length ≤ 4096 := by rw [hP', List.length_take]; omega
      rw [← hP'] at hp10
      replace P1 := Lib.hid (P1.out.below hbw)
      replace TB := Lib.hid (TB.out.below hbw)
      replace BW := Lib.hid (on BW.out hbw)
      dsimp only
      rw [← hP']
      have HP' := Lib.hid hP'
      have P10 := Lib.hid hp10
      have ltb := TB.out.lt
      have y := tcells TB.out
      obtain ⟨y0, y1, y2, y3⟩ := y
      clear hs hS hl10 hp10 hb hbw hP' HB9 O9 HBY HT h9a h9b
      have T3 := Lib.hid (Blk.new w10 #[.int .i64 s.cpus, .int .i64 s.pages, .slice a10 s.calls.length cc10, .slice ap10 P'.length cp10] 27)
      have hb11 : Below w10.heap.size w10 (w10.alloc (.cells #[.int .i64 s.cpus, .int .i64 s.pages, .slice a10 s.calls.length cc10, .slice ap10 P'.length cp10] 27)) := (Below.refl _ _).alloc (Nat.le_refl _) _
      by_cases hlt : s.picks.length < 4096
      · go_wp2_with fail
        replace P1 := Lib.hid (P1.out.below hb11)
        replace P10 := Lib.hid (P10.out.below hb11)
        replace TB := Lib.hid (TB.out.below hb11)
        replace BW := Lib.hid (on BW.out hb11)
        clear hb11 y0 y1 y2 y3 ltb
        generalize w10.alloc (.cells #[.int .i64 s.cpus, .int .i64 s.pages, .slice a10 s.calls.length cc10, .slice ap10 P'.length cp10] 27) = w11 at *
        refine (copyints_any s.picks ap1 cp1 w11 P1.out hnil1 (by omega)).mono ?_
        rintro e w12 ⟨v12, rfl, ho, hb⟩
        obtain ⟨a12, c12, rfl, h12a, h12b⟩ := owns_form ho
        have hs12 := hb.size
        have O12 := Lib.hid ho
        have B12 := Lib.hid hb
        clear hb ho
        go_wp2_with (at_builtin; refine wpList_append_own _ rfl _ _ 25 rfl w11.heap.size 3 k0 (.int .i64 0) 1 8 Try.underlying25 hk hy0 hy1 hy2 rfl (by decide) _ _ _ rfl (O12.out.alloc _) ⟨w12.heap.size, 0, none⟩ 1 1 [.int .i64 m] rfl rfl (cell_one_new _ _ _) (by simp [Value.oneCell']) (by unfold maxLen; omega) (by omega) (by simp; omega) ?_; intro v' w13 hown' hgrow _; obtain ⟨a13, c13, rfl, h13a, h13b⟩ := owns_form hown'; have hB13 : Below w11.heap.size w11 w13 := (B12.out.alloc hs12 _).grown hgrow (by simp; omega) (fun j ej => (O12.out.lt j ej).1); have O13 : w13.ownsRow w11.heap.size 3 1 (.slice a13 (s.picks.length + 1) c13) (s.picks.length + 1) ((s.picks ++ [m]).map encI) := (by rw [List.map_append]; exact hown'); have hz := tcells (T3.out.below hB13); obtain ⟨z0, z1, z2, z3⟩ := hz; clear hown' hgrow)
        refine (eqints_at P' (s.picks ++ [m]) true ap10 a13 _ _ cp10 c13 w13 rfl (by simp) (decide_eq_true (by rw [HP'.out, List.take_of_length_le (by simp; omega)])) (P10.out.below hB13) (isSl_of_own O13 (by simp))).mono ?_
        rintro e w14 ⟨rfl, hb⟩
        have hb14 : Below w11.heap.size w11 w14 := hB13.trans (hb.mono hB13.size)
        replace BW := Lib.hid (on BW.out hb14)
        have y := tcells (TB.out.below hb14)
        have z := tcells (T3.out.below hb14)
        clear hb hb14 hB13 O13 z0 z1 z2 z3 O12 B12
        obtain ⟨y0, y1, y2, y3⟩ := y
        obtain ⟨z0, z1, z2, z3⟩ := z
        go_wp2_with fail
        refine (works_any w14).mono ?_
        rintro e wz ⟨rfl, hbz⟩
        have BZ := Lib.hid (on BW.out hbz)
        clear hbz
        go_wp2_with fail
        go_ret
        exact ⟨rfl, BZ.out⟩
      · have hPe : P' = s.picks := by rw [HP'.out, List.take_append_of_le_length (by omega), List.take_of_length_le (by omega)]
        have HPE := Lib.hid hPe
        have z := tcells T3.out
        obtain ⟨z0, z1, z2, z3⟩ := z
        clear hPe
        go_wp2_with fail
        replace P1 := Lib.hid (P1.out.below hb11)
        replace P10 := Lib.hid (P10.out.below hb11)
        replace TB := Lib.hid (TB.out.below hb11)
        replace BW := Lib.hid (on BW.out hb11)
        clear hb11 y0 y1 y2 y3 ltb z0 z1 z2 z3
        generalize w10.alloc (.cells #[.int .i64 s.cpus, .int .i64 s.pages, .slice a10 s.calls.length cc10, .slice ap10 P'.length cp10] 27) = w11 at *
        refine (eqints_at P' s.picks true ap10 ap1 _ _ cp10 cp1 w11 rfl rfl (decide_eq_true HPE.out) P10.out P1.out).mono ?_
        rintro e w14 ⟨rfl, hb⟩
        replace BW := Lib.hid (on BW.out hb)
        have y := tcells (TB.out.below hb)
        have z := tcells (T3.out.below hb)
        clear hb
        obtain ⟨y0, y1, y2, y3⟩ := y
        obtain ⟨z0, z1, z2, z3⟩ := z
        go_wp2_with fail
        refine (works_any w14).mono ?_
        rintro e wz ⟨rfl, hbz⟩
        have BZ := Lib.hid (on BW.out hbz)
        clear hbz
        go_wp2_with fail
        go_ret
        exact ⟨rfl, BZ.out⟩
end Go.Proofs.Ytdjhkiahpidldaa
