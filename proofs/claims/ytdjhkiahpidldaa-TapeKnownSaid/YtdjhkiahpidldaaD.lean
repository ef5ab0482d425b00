/- The walk of the reference's Script. -/
import Derived.Test.YtdjhkiahpidldaaC
namespace Go.Proofs.Ytdjhkiahpidldaa
open Go.RowKit

attribute [local go_sem ↓] Go.wp_at_zero Go.wp_at_succ
theorem far_cell {w w1 : World} {o : Obj} {row : Option Nat} {g i : Nat} {u : Value} (hg : (w.alloc o).grownBy w1 row) (hlt : g < w.heap.size) (hn : row ≠ some g) (hc : w.cell? ⟨g, i, none⟩ = some u) : w1.cell? ⟨g, i, none⟩ = some u := by
  rw [World.cell?_of_block (w := w) (a := ⟨g, i, none⟩) ((hg.block g (by simp; omega) (Ne.symm hn)).trans (heap_alloc_old w o hlt))]; exact hc
theorem far_frz {w w1 : World} {o : Obj} {row : Option Nat} {g i : Nat} {u : Bool} (hg : (w.alloc o).grownBy w1 row) (hlt : g < w.heap.size) (hn : row ≠ some g) (hc : w.frozen? ⟨g, i, none⟩ = u) : w1.frozen? ⟨g, i, none⟩ = u := by
  rw [World.frozen?_of_block (w := w) (a := ⟨g, i, none⟩) ((hg.block g (by simp; omega) (Ne.symm hn)).trans (heap_alloc_old w o hlt))]; exact hc
set_option maxRecDepth 100000 in
set_option maxHeartbeats 3200000 in
theorem rscript_any (b : List Int) (a : Option Addr) (cap : Nat) (w : World) (hb : IsBytes b) (hI : IsSl encU w a b) :
    Calls Try.prog 12 #[.slice a b.length cap] w fun e w' => ∃ v, e = .returned v ∧ IsScr w.heap.size w' v (scr b) ∧ Below w.heap.size w w' := by
  have HI := Lib.hid hI
  have hlen := hI.len
  have h0 := bt_bd hb 0
  have h1 := bt_bd hb 1
  have h2 := bt_bd hb 2
  obtain ⟨hn1, hn2, hn3⟩ := cpusN_bd hb
  obtain ⟨i0, hi, hz0, hz1, hz2⟩ := info_parts info3
  obtain ⟨c0, hc0, hcz0, hcz1, hcz2⟩ := info_parts info44
  obtain ⟨d0, hd0, hdz0, hdz1, hdz2⟩ := info_parts info42
  have HN := Lib.hid hn1
  clear hI hn1
  go_enter Try.func12, Try.ntmps12
  go_wp2_with fail
  obtain ⟨V, hV⟩ : ∃ V, V = w.heap.size := ⟨_, rfl⟩
  have bV := Lib.hid ((Blk.new w #[.int .i64 0, .int .i64 0, .slice none 0 0, .slice none 0 0] 27).alloc (.cells #[.slice a b.length cap, .int .i64 0] 52))
  have hbw : Below w.heap.size w ((w.alloc (.cells #[.int .i64 0, .int .i64 0, .slice none 0 0, .slice none 0 0] 27)).alloc (.cells #[.slice a b.length cap, .int .i64 0] 52)) := (by repeat (first | exact Below.refl _ _ | assumption | refine Below.setCell ?_ (by first | omega | (simp; done) | (simp; omega)) _ | refine Below.drew ?_ | refine Below.alloc ?_ (by first | omega | (simp; done) | (simp; omega)) _ | refine Below.trans ?_ (Below.mono (by assumption) (by first | omega | (simp; done) | (simp; omega)))))
  have r0 : Rr w a b cap (w.heap.size + 1) 0 ((w.alloc (.cells #[.int .i64 0, .int .i64 0, .slice none 0 0, .slice none 0 0] 27)).alloc (.cells #[.slice a b.length cap, .int .i64 0] 52)) := by
    refine ⟨by omega, by simp, hbw, ?_, ?_, ?_⟩
    · simp
    · simp
    · simp
  have hs0 : ((w.alloc (.cells #[.int .i64 0, .int .i64 0, .slice none 0 0, .slice none 0 0] 27)).alloc (.cells #[.slice a b.length cap, .int .i64 0] 52)).heap.size = w.heap.size + 2 := by simp
  have R0 := Lib.hid r0
  clear hbw r0
  generalize (w.alloc (.cells #[.int .i64 0, .int .i64 0, .slice none 0 0, .slice none 0 0] 27)).alloc (.cells #[.slice a b.length cap, .int .i64 0] 52) = W0 at *
  have hVle : w.heap.size ≤ V := by omega
  rw [← hV] at bV R0 hs0 ⊢
  clear hV
  refine (rone_any w a b cap (V + 1) 0 W0 hb HI.out R0.out).mono ?_
  rintro e w1 ⟨rfl, hr, ho⟩
  have R1 := Lib.hid hr
  replace bV := Lib.hid (bV.out.only ho (by omega))
  have hs1 := Lib.hid (ho.s.trans hs0)
  clear hr ho R0 hs0
  go_wp2_with fail
  rw [hs1.out]
  have bS := Blk.new w1 #[.int .i64 (1 + bt b 0 % 8), .int .i64 0, .slice none 0 0, .slice none 0 0] 27
  rw [hs1.out] at bS
  replace bS := Lib.hid bS
  replace bV := Lib.hid (bV.out.alloc (.cells #[.int .i64 (1 + bt b 0 % 8), .int .i64 0, .slice none 0 0, .slice none 0 0] 27))
  replace R1 := Lib.hid (R1.out.alloc (.cells #[.int .i64 (1 + bt b 0 % 8), .int .i64 0, .slice none 0 0, .slice none 0 0] 27))
  generalize w1.alloc (.cells #[.int .i64 (1 + bt b 0 % 8), .int .i64 0, .slice none 0 0, .slice none 0 0] 27) = w1' at *
  clear hs1
  refine (rtwo_any w a b cap (V + 1) 1 w1' hb HI.out R1.out).mono ?_
  rintro e w2 ⟨rfl, hr, ho⟩
  have R2 := Lib.hid hr
  replace bV := Lib.hid (bV.out.only ho (by omega))
  replace bS := Lib.hid (bS.out.only ho (by omega))
  clear hr ho R1
  have cV1 := bS.out.cell (i := 1) rfl
  have fV1 := bS.out.frozen 1
  simp at cV1
  go_wp2_with fail
  clear cV1 fV1
  obtain ⟨n, hn⟩ : ∃ n, n = cpusN b := ⟨_, rfl⟩
  rw [← hn] at HN hn2 hn3
  obtain ⟨pg, hpg⟩ : ∃ pg, pg = 1 + (bt b 1 * 256 + bt b 2) % 1024 := ⟨_, rfl⟩
  rw [← HN.out] at bS ⊢
  rw [← hpg]
  replace bS := Lib.hid (bS.out.set 1 (.int .i64 pg) (cs' := #[.int .i64 n, .int .i64 pg, .slice none 0 0, .slice none 0 0]) rfl)
  replace bV := Lib.hid (bV.out.setOther (a := ⟨V + 2, 1, none⟩) (by simp) (.int .i64 pg))
  replace R2 := Lib.hid (R2.out.set (g := V + 2) 1 (.int .i64 pg) (by omega) (by omega))
  have HNN := Lib.hid hn
  have HPG := Lib.hid hpg
  clear hn hpg
  generalize w2.setCell ⟨V + 2, 1, none⟩ (.int .i64 pg) = W3 at *
  go_loopw [5] (fun i wr => ∃ (k : Nat) (vc : Value) (vs : List Value), k ≤ n ∧ i = .int .i64 k ∧ Rr w a b cap (V + 1) (pos b k) wr ∧ OutB b V n pg k vc vs wr) (fun i _ => n - (intOf i).toNat)
  case atStart => exact ⟨0, _, [], by omega, rfl, R2.out, bV.out, bS.out, World.ownsRow_nil _ _ _ _, fun j hj => by omega⟩
  case round =>
    clear R2 bV bS
    obtain ⟨k, vc, vs, hk, rfl, hRD, hS⟩ := hrel
    have RD := Lib.hid hRD
    have S := Lib.hid hS
    clear hS hRD
    have cS := S.out.bS.cell (i := 0) rfl
    simp at cS
    by_cases hlt : k < n
    · go_wp2_with fail
      refine (rone_any w a b cap (V + 1) (pos b k) wr hb HI.out RD.out).mono ?_
      rintro e w3 ⟨rfl, hr, ho⟩
      obtain ⟨p, hp⟩ : ∃ p, p = pos b k := ⟨_, rfl⟩
      have hnx := nAt_bd hb p
      have hbp := bt_bd hb p
      rw [← hp] at hr ⊢
      have HP := Lib.hid hp
      have hI0 : InR b V p w3 0 (.slice none 0 0) w3 := ⟨World.ownsRow_nil _ _ _ _, Nat.le_refl _, by have := S.out.bS.lt; have := ho.s; omega, fun g _ _ => rfl⟩
      have RD0 := Lib.hid hr
      have HI0 := Lib.hid hI0
      replace S := Lib.hid (S.out.keep (w' := w3) fun g h1 h2 => ho.g.block g h1 (by simpa using h2))
      clear hI0 hr ho hp cS RD
      obtain ⟨nx, hnx'⟩ : ∃ nx, nx = nAt b p := ⟨_, rfl⟩
      rw [← hnx'] at hnx
      have HNX := Lib.hid hnx.1
      have hnx2 := hnx.2
      have HNX' := Lib.hid hnx'
      clear hnx hnx'
      go_wp2_with fail
      rw [← HNX.out]
      go_loopw [6, 8] (fun v i wr => ∃ m : Nat, m ≤ nx ∧ i = .int .i64 m ∧ Rr w a b cap (V + 1) (p + 1 + 5 * m) wr ∧ InR b V p w3 m v wr) (fun _ i _ => nx - (intOf i).toNat)
      case atStart => exact ⟨0, by omega, rfl, RD0.out, HI0.out⟩
      case round =>
        clear HI0
        obtain ⟨m, hm, rfl, hRD, hN⟩ := hrel
        have RD := Lib.hid hRD
        clear hRD RD0
        have N := Lib.hid hN
        clear hN
        by_cases hlt2 : m < nx
        · have e0 := bt_bd hb (p + 1 + 5 * m)
          have e1 := bt_bd hb (p + 1 + 5 * m + 1)
          have e2 := bt_bd hb (p + 1 + 5 * m + 2)
          have e3 := bt_bd hb (p + 1 + 5 * m + 3)
          have e4 := bt_bd hb (p + 1 + 5 * m + 4)
          go_wp2_with fail
          refine (rone_any w a b cap (V + 1) _ _ hb HI.out RD.out).mono ?_
          rintro e w4 ⟨rfl, hr, ho⟩
          replace N := Lib.hid (N.out.only ho)
          replace S := Lib.hid S.out
          go_wp2_with fail
          obtain ⟨T, hT⟩ : ∃ T, T = w4.heap.size := ⟨_, rfl⟩
          have hT1 : w3.heap.size ≤ T := by have := N.out.size; omega
          have hT2 := Lib.hid (show u6.ownBlock ≠ some T from fun e => by have := (N.out.own.lt T e).2; omega)
          have hT3 : V + 2 < T := by have := N.out.big; omega
          have RA := Lib.hid (hr.alloc (.cells #[.int .i64 (bt b (p + 1 + 5 * m) % 14), .int .i64 0, .int .i64 0, .int .i64 0] 44))
          have BT := Lib.hid (Blk.new w4 #[.int .i64 (bt b (p + 1 + 5 * m) % 14), .int .i64 0, .int .i64 0, .int .i64 0] 44)
          replace N := Lib.hid (N.out.alloc (.cells #[.int .i64 (bt b (p + 1 + 5 * m) % 14), .int .i64 0, .int .i64 0, .int .i64 0] 44))
          rw [← hT] at BT ⊢
          clear hr ho hT RD
          generalize w4.alloc (.cells #[.int .i64 (bt b (p + 1 + 5 * m) % 14), .int .i64 0, .int .i64 0, .int .i64 0] 44) = w5 at *
          refine (rone_any w a b cap (V + 1) _ _ hb HI.out RA.out).mono ?_
          rintro e w6 ⟨rfl, hr, ho⟩
          replace N := Lib.hid (N.out.only ho)
          replace BT := Lib.hid (BT.out.only ho (by omega))
          have cT := BT.out.cell (i := 1) rfl
          have fT := BT.out.frozen 1
          simp at cT
          go_wp2_with fail
          replace N := Lib.hid (N.out.set hT1 hT2.out 1 (.int .i64 (bt b (p + 1 + 5 * m + 1))))
          replace BT := Lib.hid (BT.out.set 1 (.int .i64 (bt b (p + 1 + 5 * m + 1))) rfl)
          replace RA := Lib.hid (hr.set 1 (.int .i64 (bt b (p + 1 + 5 * m + 1))) (g := T) (by have := hr.hR; omega) (by omega))
          clear hr ho cT fT
          generalize w6.setCell ⟨T, 1, none⟩ (.int .i64 (bt b (p + 1 + 5 * m + 1))) = w7 at *
          refine (rtwo_any w a b cap (V + 1) (p + 1 + 5 * m + 2) _ hb HI.out RA.out).mono ?_
          rintro e w8 ⟨rfl, hr, ho⟩
          replace N := Lib.hid (N.out.only ho)
          replace BT := Lib.hid (BT.out.only ho (by omega))
          have cT := BT.out.cell (i := 2) rfl
          have fT := BT.out.frozen 2
          simp at cT
          obtain ⟨y, hy⟩ : ∃ y, y = bt b (p + 1 + 5 * m + 2) * 256 + bt b (p + 1 + 5 * m + 3) := ⟨_, rfl⟩
          have HY := Lib.hid hy
          rw [show bt b (p + 1 + 5 * m + 2) * 256 + bt b (p + 1 + 5 * m + 2 + 1) = y from hy.symm]
          clear hy
          go_wp2_with fail
          replace N := Lib.hid (N.out.set hT1 hT2.out 2 (.int .i64 y))
          replace BT := Lib.hid (BT.out.set 2 (.int .i64 y) rfl)
          replace RA := Lib.hid (hr.set 2 (.int .i64 y) (g := T) (by have := hr.hR; omega) (by omega))
          clear hr ho cT fT
          generalize w8.setCell ⟨T, 2, none⟩ (.int .i64 y) = w9 at *
          refine (rone_any w a b cap (V + 1) (p + 1 + 5 * m + 4) _ hb HI.out RA.out).mono ?_
          rintro e w10 ⟨rfl, hr, ho⟩
          replace N := Lib.hid (N.out.only ho)
          replace BT := Lib.hid (BT.out.only ho (by omega))
          have cT0 := BT.out.cell (i := 0) rfl
          have cT1 := BT.out.cell (i := 1) rfl
          have cT2 := BT.out.cell (i := 2) rfl
          have cT3 := BT.out.cell (i := 3) rfl
          have fT := BT.out.frozen 3
          simp at cT0 cT1 cT2 cT3
          have hbw := hr.hw.size
          have hown := (N.out.set hT1 hT2.out 3 (.int .i64 (bt b (p + 1 + 5 * m + 4)))).own
          have hsz := N.out.size
          go_wp2_with (at_builtin; refine wpList_append_own _ rfl _ _ 42 rfl w3.heap.size 44 c0 _ 4 32 Try.underlying42 hc0 hcz0 hcz1 hcz2 rfl (by omega) _ _ _ rfl (hown.alloc _) ⟨w10.heap.size, 0, none⟩ 1 1 [.int .i64 (bt b (p + 1 + 5 * m) % 14), .int .i64 (bt b (p + 1 + 5 * m + 1)), .int .i64 y, .int .i64 (bt b (p + 1 + 5 * m + 4))] rfl rfl (World.news_of_block (cs := #[.int .i64 (bt b (p + 1 + 5 * m) % 14), .int .i64 (bt b (p + 1 + 5 * m + 1)), .int .i64 y, .int .i64 (bt b (p + 1 + 5 * m + 4))]) (t := 44) (fr := (0, 0)) (by simpa using heap_alloc_new (w10.setCell ⟨T, 3, none⟩ (.int .i64 (bt b (p + 1 + 5 * m + 4)))) _)) (by simp [Value.oneCell']) (by unfold maxLen; omega) (by omega) (by simp; omega) ?_; intro v' w1 hown' hgrow _)
          have hRw := hr.hR
          have NX := (N.out.set hT1 hT2.out 3 (.int .i64 (bt b (p + 1 + 5 * m + 4)))).next hgrow hown' (by rw [HY.out]; rfl)
          have hR1 := (hr.set 3 (.int .i64 (bt b (p + 1 + 5 * m + 4))) (g := T) (by omega) (by omega)).alloc (.cells #[.int .i64 (bt b (p + 1 + 5 * m) % 14), .int .i64 (bt b (p + 1 + 5 * m + 1)), .int .i64 y, .int .i64 (bt b (p + 1 + 5 * m + 4))] 44)
          have hRv : ∀ g, u6.ownBlock = some g → V + 2 < g := fun g hg => by have := (N.out.own.lt g hg).1; have := N.out.big; omega
          have RX := hR1.grown hgrow (fun e => by have := hRv _ e.symm; omega) (hR1.hw.grown hgrow hR1.hw.size (fun g e => by have := hRv g e; omega))
          exact ⟨⟨m + 1, by omega, by go_num, RX, NX⟩, by simp [intOf]; omega⟩
        · obtain rfl : m = nx := by omega
          have SB := S.out.keep (w' := wr) (fun g h1 h2 => N.out.kept g h1 h2)
          have hv := owns_mono (base' := V + 3) N.out.own (by have := N.out.big; omega)
          obtain rfl := HP.out
          obtain rfl := HNX'.out
          have hcl := callsFrom_len b (pos b k) (nAt b (pos b k))
          have cS := SB.bS.cell (i := 2) rfl
          have fS := SB.bS.frozen 2
          have c0S := SB.bS.cell (i := 0) rfl
          simp at cS c0S
          have hown := SB.own
          obtain ⟨au, cu, rfl, -, -⟩ := owns_form hv
          obtain ⟨ac, cc', rfl, -, -⟩ := owns_form hown
          have hsz := SB.bS.lt
          have hbw := RD.out.hw.size
          have aV : (Value.slice ac k cc').ownBlock ≠ some (V + 2) := fun e => by have := (hown.lt _ e).1; omega
          go_wp2_with (at_builtin; refine wpList_append_lies _ rfl _ _ 24 rfl (V + 3) 42 d0 _ 1 24 Try.underlying24 hd0 hdz0 hdz1 hdz2 rfl (by omega) _ _ _ rfl (hown.alloc _) ⟨wr.heap.size, 0, none⟩ 1 1 [.slice au (nAt b (pos b k)) cu] rfl rfl (cell_one_new _ _ _) (by simpa using owns_one hv) (by omega) (by unfold maxLen; omega) (by omega) (by simp; omega) (wr.heap.size + 1) (by simp) ?_; intro gg cc w1 hown' hgrow hat hlt'; have hcw := far_cell hgrow hsz aV cS; have hfw := far_frz hgrow hsz aV fS)
          have hR1 := RD.out.alloc (.cells #[.slice au (nAt b (pos b k)) cu] 42)
          have hR2 := hR1.grown hgrow (fun e => by have := (hown.lt _ e.symm).1; omega) (hR1.hw.grown hgrow hR1.hw.size (fun g e => by have := (hown.lt g e).1; omega))
          refine ⟨⟨k + 1, _, _, by omega, by go_num, hR2.set 2 _ (by omega) (by omega), SB.push ?_ hgrow hown'⟩, by simp [intOf]; omega⟩
          show wr.ownsRow (V + 3) 44 4 _ (callsFrom b (pos b k) (nAt b (pos b k))).length _
          rw [hcl]
          exact hv
    · obtain rfl : k = n := by omega
      obtain ⟨P, hP⟩ : ∃ P, P = pos b k := ⟨_, rfl⟩
      obtain ⟨M, hM⟩ : ∃ M, M = min (b.length - P) 4096 := ⟨_, rfl⟩
      have HP := Lib.hid hP
      have HM := Lib.hid hM
      have hM1 : M ≤ b.length - P := by omega
      have hM2 : M ≤ 4096 := by omega
      have hM3 : M < 4096 → b.length ≤ P + M := by omega
      rw [← hP] at RD
      have cSb := S.out.bS
      have hown0 := S.out.own
      clear hP hM
      go_wp2_with fail
      have hT0 : PickR w a b cap V k pg vc P wr 0 (.slice none 0 0) wr := ⟨RD.out, cSb, World.ownsRow_nil _ _ _ _, Nat.le_refl _, cSb.lt, fun g _ _ _ => rfl⟩
      have HT0 := Lib.hid hT0
      clear hT0 RD cSb hown0 cS
      generalize wr = W6 at HT0 S ⊢
      go_loopg [] M (fun g wr => ∃ (j : Nat) (v : Value), j ≤ M ∧ g = M - j ∧ PickR w a b cap V k pg vc P W6 j v wr)
      case atStart => exact ⟨0, _, by omega, by omega, HT0.out⟩
      case round =>
        clear HT0
        obtain ⟨j, v, hj, hgk, hN⟩ := hrel
        have N := Lib.hid hN
        clear hN
        obtain ⟨av, cv, rfl, -, -⟩ := owns_form N.out.own
        have s1 := N.out.bS.cell (i := 3) rfl
        have s2 := N.out.rd.hc1
        simp at s1
        by_cases hlt3 : j < M
        · rw [Nat.min_eq_left (by omega)] at s2
          have hj4 : decide ((j : Int) < 4096) = true := by simp; omega
          have hjb : decide ((P : Int) + (j : Int) < (b.length : Int)) = true := by simp; omega
          go_wp2_with fail
          have ag : (Value.slice av j cv).ownBlock ≠ some (V + 2) := fun e => by have := (N.out.own.lt _ e).1; have := N.out.big; omega
          have aR : (Value.slice av j cv).ownBlock ≠ some (V + 1) := fun e => by have := (N.out.own.lt _ e).1; have := N.out.big; omega
          have lg := N.out.bS.lt
          have hsz5 := N.out.size
          have hbtj := bt_bd hb (P + j)
          have s6 : wr.frozen? ⟨V + 2, 3, none⟩ = false := N.out.bS.frozen 3
          clear s2 hj4 hjb
          have hHB : (fun w' : World => w'.frozen? ⟨V + 2, 3, none⟩ = false ∧ w'.cell? ⟨V + 2, 3, none⟩ = some (.slice av j cv)) wr.drew := ⟨s6, s1⟩
          refine till_start 7 (fun w' : World => w'.frozen? ⟨V + 2, 3, none⟩ = false ∧ w'.cell? ⟨V + 2, 3, none⟩ = some (.slice av j cv)) (by kernel_rfl) ?_
          refine till_take (i := 0) (v := ?_) rfl (by kernel_rfl) (by kernel_rfl) (by kernel_rfl) (by kernel_rfl) (fun _ _ _ h => h) (Or.inl ⟨by rfl, ?_⟩) hHB ?_
          rotate_left
          · (intro w hSw; (try dsimp only at hSw); go_simp; try with_reducible rfl)
          try simp only [Act.put, List.setIfInBounds_toArray, List.set_cons_zero, List.set_cons_succ]
          refine till_take (i := 1) (v := ?_) rfl (by kernel_rfl) (by kernel_rfl) (by kernel_rfl) (by kernel_rfl) (fun _ _ _ h => h) (Or.inl ⟨by rfl, ?_⟩) hHB ?_
          rotate_left
          · (intro w hSw; (try dsimp only at hSw); go_simp; try with_reducible rfl)
          try simp only [Act.put, List.setIfInBounds_toArray, List.set_cons_zero, List.set_cons_succ]
          refine till_take (i := 2) (v := ?_) rfl (by kernel_rfl) (by kernel_rfl) (by kernel_rfl) (by kernel_rfl) (fun _ _ _ h => h) (Or.inl ⟨by rfl, ?_⟩) hHB ?_
          rotate_left
          · (intro w hSw; (try dsimp only at hSw); go_simp; try with_reducible rfl)
          try simp only [Act.put, List.setIfInBounds_toArray, List.set_cons_zero, List.set_cons_succ]
          clear hHB
          refine till_one (i := 3) (by kernel_rfl) rfl (fun K hK => ?_)
          go_simp
          refine (rone_any w a b cap (V + 1) (P + j) _ hb HI.out N.out.rd.drew).mono ?_
          rintro e wA ⟨rfl, hrA, hoA'⟩
          have hoA := hoA'.ofDrew
          have lA : V + 2 < wA.heap.size := (by rw [hoA.s]; exact lg)
          have hcA : wA.cell? ⟨V + 2, 3, none⟩ = some (.slice av j cv) := ((World.cell?_of_block (w := wr) (a := ⟨V + 2, 3, none⟩) (hoA.g.block (V + 2) lg (by simp))).trans s1)
          have hfA : wA.frozen? ⟨V + 2, 3, none⟩ = false := ((World.frozen?_of_block (w := wr) (a := ⟨V + 2, 3, none⟩) (hoA.g.block (V + 2) lg (by simp))).trans s6)
          have hownA : wA.ownsRow W6.heap.size 3 1 (.slice av j cv) j ((picksFrom b P j).map encI) := N.out.own.kept (w' := wA) hoA.g (by right; exact aR)
          have hszA : W6.heap.size ≤ wA.heap.size := (by rw [hoA.s]; exact hsz5)
          try go_wp2_with fail
          refine hK.out _ _ (fun _ => ⟨hfA, hcA⟩) ?_
          clear hK K
          try simp only [Act.put, List.setIfInBounds_toArray, List.set_cons_zero, List.set_cons_succ]
          refine till_one (i := 4) (by kernel_rfl) rfl (fun K hK => ?_)
          go_simp
          refine hK.out _ _ (fun _ => ⟨(frz_ad' _ _ _ lA).trans hfA, (cel_ad' _ _ _ lA).trans hcA⟩) ?_
          clear hK K
          try simp only [Act.put, List.setIfInBounds_toArray, List.set_cons_zero, List.set_cons_succ]
          refine till_one (i := 5) (by kernel_rfl) rfl (fun K hK => ?_)
          (refine step_append_lies _ (by rfl) _ _ _ (by rfl) W6.heap.size 3 i0 _ 1 8 Try.underlying25 hi hz0 hz1 hz2 rfl (by omega) (.slice av j cv) j _ (by rfl) (hownA.alloc _)
                        ⟨wA.heap.size, 0, none⟩ 1 1 [encI (bt b (P + j))] (by rfl) (by rfl) (World.news_of_block (cs := #[encI (bt b (P + j))]) (t := 3) (fr := (0, 0)) (heap_alloc_new wA _)) (by simp [Value.oneCell', encI])
                        (by omega) (by unfold maxLen; omega) (by omega) (by simp; omega) (wA.heap.size + 1) (by simp) ?_; intro gg cc w1 hown1 hgrow hat hlt)
          have hcw := far_cell hgrow lA ag hcA
          have hfw := far_frz hgrow lA ag hfA
          refine hK.out _ _ (fun _ => ⟨hfw, hcw⟩) ?_
          clear hK K
          try simp only [Act.put, List.setIfInBounds_toArray, List.set_cons_zero, List.set_cons_succ]
          refine till_one (i := 6) (by kernel_rfl) rfl (fun K hK => ?_)
          go_simp
          refine hK.out _ _ (fun _ => ⟨hfw, hcw⟩) ?_
          clear hK K
          try simp only [Act.put, List.setIfInBounds_toArray, List.set_cons_zero, List.set_cons_succ]
          refine till_one (i := 7) (by kernel_rfl) rfl (fun K hK => ?_)
          go_simp
          refine hK.out _ _ (fun h => absurd rfl h) ?_
          clear hK K
          try simp only [Act.put, List.setIfInBounds_toArray, List.set_cons_zero, List.set_cons_succ]
          refine till_done (by kernel_rfl) ?_ _
          have NX := Lib.hid (N.out.next hVle hrA hoA hgrow hown1)
          clear hgrow hown1 hcw hfw hcA hfA hownA
          go_wp2_with fail
          go_roundg (M - (j + 1))
          case rel => exact ⟨j + 1, _, by omega, rfl, NX.out⟩
          case measure => omega
        · obtain rfl : j = M := by omega
          have cc0 := N.out.bS.cell (i := 0) rfl
          have cc1 := N.out.bS.cell (i := 1) rfl
          have cc2 := N.out.bS.cell (i := 2) rfl
          have hbV : Blk wr V _ _ := (N.out.kept V (by have := N.out.big; omega) (by omega) (by omega)).trans S.out.bV
          have dd0 := hbV.cell (i := 0) rfl
          have dd1 := hbV.cell (i := 1) rfl
          have dd2 := hbV.cell (i := 2) rfl
          have dd3 := hbV.cell (i := 3) rfl
          have ff0 := hbV.frozen 0
          have ff1 := hbV.frozen 1
          have ff2 := hbV.frozen 2
          have ff3 := hbV.frozen 3
          simp at cc0 cc1 cc2 dd0 dd1 dd2 dd3
          obtain ⟨ac, cc', rfl, -, -⟩ := owns_form S.out.own
          by_cases hj4 : j < 4096
          · rw [Nat.min_eq_right (by omega)] at s2
            have hj4' : decide ((j : Int) < 4096) = true := by simp; omega
            go_wp2_with fail
            have BF := Lib.hid ((((hbV.set 0 (.int .i64 k) rfl).set 1 (.int .i64 pg) rfl).set 2 (.slice ac k cc') rfl).set 3 (.slice av j cv) (cs' := #[.int .i64 k, .int .i64 pg, .slice ac k cc', .slice av j cv]) rfl)
            have OF := Lib.hid ((((Only.set V 0 wr (.int .i64 k)).trans (Only.set V 1 _ (.int .i64 pg))).trans (Only.set V 2 _ (.slice ac k cc'))).trans (Only.set V 3 _ (.slice av j cv)))
            have BW := Lib.hid ((((N.out.rd.hw.setCell (p := ⟨V, 0, none⟩) hVle (.int .i64 k)).setCell (p := ⟨V, 1, none⟩) hVle (.int .i64 pg)).setCell (p := ⟨V, 2, none⟩) hVle (.slice ac k cc')).setCell (p := ⟨V, 3, none⟩) hVle (.slice av j cv))
            have KF := Lib.hid (show ∀ g, g ≠ V → ((((wr.setCell ⟨V, 0, none⟩ (.int .i64 k)).setCell ⟨V, 1, none⟩ (.int .i64 pg)).setCell ⟨V, 2, none⟩ (.slice ac k cc')).setCell ⟨V, 3, none⟩ (.slice av j cv)).heap[g]? = wr.heap[g]? from fun g hg => by
              rw [Below.heap_setCell _ _ _ _ (by simpa using hg), Below.heap_setCell _ _ _ _ (by simpa using hg), Below.heap_setCell _ _ _ _ (by simpa using hg), Below.heap_setCell _ _ _ _ (by simpa using hg)])
            clear cc0 cc1 cc2 dd0 dd1 dd2 dd3 ff0 ff1 ff2 ff3
            generalize (((wr.setCell ⟨V, 0, none⟩ (.int .i64 k)).setCell ⟨V, 1, none⟩ (.int .i64 pg)).setCell ⟨V, 2, none⟩ (.slice ac k cc')).setCell ⟨V, 3, none⟩ (.slice av j cv) = WF at *
            have q0 := BF.out.cell (i := 0) rfl
            have q1 := BF.out.cell (i := 1) rfl
            have q2 := BF.out.cell (i := 2) rfl
            have q3 := BF.out.cell (i := 3) rfl
            simp at q0 q1 q2 q3
            refine bodyPost_ret (v := .agg #[.int .i64 k, .int .i64 pg, .slice ac k cc', .slice av j cv]) (by simp [results, Try.results12, go_sem, q0, q1, q2, q3]) rfl ?_
            obtain ⟨g, cg, hvg, hg1, hg2⟩ := S.out.own.form (by omega)
            obtain ⟨rfl, rfl⟩ : ac = some ⟨g, 0, none⟩ ∧ cc' = cg := by injection hvg with h1 _ h3; exact ⟨h1, h3⟩
            have hbig := N.out.big
            refine ⟨_, rfl, ⟨g, cc', .slice av j cv, by unfold scr; simp [HPG.out, HN.out, ← HNN.out], by omega, ?_, ?_⟩, BW.out⟩
            · intro i l hl
              simp only [scr, ← HNN.out] at hl
              rw [List.getElem?_map] at hl
              obtain ⟨hik, rfl⟩ : i < k ∧ listAt b i = l := by
                by_cases h : i < k
                · rw [List.getElem?_range h] at hl; exact ⟨h, Option.some.inj hl⟩
                · rw [List.getElem?_eq_none (by simpa using h)] at hl; cases hl
              obtain ⟨u, hu, hou⟩ := S.out.done i hik
              obtain ⟨a2, cap2, rfl, hc2, hb2⟩ := calls_of_owns hou rfl
              refine ⟨a2, cap2, ?_, ?_⟩
              · rw [World.cell?_of_block (w := W6) (a := ⟨g, i, none⟩) ((KF.out g (by omega)).trans (N.out.kept g hg2 (by omega) (by omega)))]
                rw [S.out.own.cellAt i (by omega)]
                exact hu
              · refine hc2.keep fun x o u hx hcell => ?_
                have hlt := World.block_lt_of_cell? W6 _ hcell
                have hgt := (hb2 x hx).1
                simp only at hlt
                rw [World.cell?_of_block (w := W6) (a := ⟨x.block, o, none⟩) ((KF.out x.block (by omega)).trans (N.out.kept x.block hlt (by omega) (by omega)))]
                exact hcell
            · have hbs := N.out.own
              have e1 : (scr b).picks = picksFrom b P j := by simp only [scr, ← HNN.out, ← HP.out, ← HM.out]
              rw [e1, picksFrom_len]
              have hown1 : WF.ownsRow W6.heap.size 3 1 (.slice av j cv) j ((picksFrom b P j).map encI) := hbs.kept OF.out.g (.inr (fun e => by have := (hbs.lt V e).1; have := N.out.big; omega))
              exact owns_mono hown1 (by have := N.out.big; omega)
          · have hj4' : decide ((j : Int) < 4096) = false := by simp; omega
            go_wp2_with fail
            have BF := Lib.hid ((((hbV.set 0 (.int .i64 k) rfl).set 1 (.int .i64 pg) rfl).set 2 (.slice ac k cc') rfl).set 3 (.slice av j cv) (cs' := #[.int .i64 k, .int .i64 pg, .slice ac k cc', .slice av j cv]) rfl)
            have OF := Lib.hid ((((Only.set V 0 wr (.int .i64 k)).trans (Only.set V 1 _ (.int .i64 pg))).trans (Only.set V 2 _ (.slice ac k cc'))).trans (Only.set V 3 _ (.slice av j cv)))
            have BW := Lib.hid ((((N.out.rd.hw.setCell (p := ⟨V, 0, none⟩) hVle (.int .i64 k)).setCell (p := ⟨V, 1, none⟩) hVle (.int .i64 pg)).setCell (p := ⟨V, 2, none⟩) hVle (.slice ac k cc')).setCell (p := ⟨V, 3, none⟩) hVle (.slice av j cv))
            have KF := Lib.hid (show ∀ g, g ≠ V → ((((wr.setCell ⟨V, 0, none⟩ (.int .i64 k)).setCell ⟨V, 1, none⟩ (.int .i64 pg)).setCell ⟨V, 2, none⟩ (.slice ac k cc')).setCell ⟨V, 3, none⟩ (.slice av j cv)).heap[g]? = wr.heap[g]? from fun g hg => by
              rw [Below.heap_setCell _ _ _ _ (by simpa using hg), Below.heap_setCell _ _ _ _ (by simpa using hg), Below.heap_setCell _ _ _ _ (by simpa using hg), Below.heap_setCell _ _ _ _ (by simpa using hg)])
            clear cc0 cc1 cc2 dd0 dd1 dd2 dd3 ff0 ff1 ff2 ff3
            generalize (((wr.setCell ⟨V, 0, none⟩ (.int .i64 k)).setCell ⟨V, 1, none⟩ (.int .i64 pg)).setCell ⟨V, 2, none⟩ (.slice ac k cc')).setCell ⟨V, 3, none⟩ (.slice av j cv) = WF at *
            have q0 := BF.out.cell (i := 0) rfl
            have q1 := BF.out.cell (i := 1) rfl
            have q2 := BF.out.cell (i := 2) rfl
            have q3 := BF.out.cell (i := 3) rfl
            simp at q0 q1 q2 q3
            refine bodyPost_ret (v := .agg #[.int .i64 k, .int .i64 pg, .slice ac k cc', .slice av j cv]) (by simp [results, Try.results12, go_sem, q0, q1, q2, q3]) rfl ?_
            obtain ⟨g, cg, hvg, hg1, hg2⟩ := S.out.own.form (by omega)
            obtain ⟨rfl, rfl⟩ : ac = some ⟨g, 0, none⟩ ∧ cc' = cg := by injection hvg with h1 _ h3; exact ⟨h1, h3⟩
            have hbig := N.out.big
            refine ⟨_, rfl, ⟨g, cc', .slice av j cv, by unfold scr; simp [HPG.out, HN.out, ← HNN.out], by omega, ?_, ?_⟩, BW.out⟩
            · intro i l hl
              simp only [scr, ← HNN.out] at hl
              rw [List.getElem?_map] at hl
              obtain ⟨hik, rfl⟩ : i < k ∧ listAt b i = l := by
                by_cases h : i < k
                · rw [List.getElem?_range h] at hl; exact ⟨h, Option.some.inj hl⟩
                · rw [List.getElem?_eq_none (by simpa using h)] at hl; cases hl
              obtain ⟨u, hu, hou⟩ := S.out.done i hik
              obtain ⟨a2, cap2, rfl, hc2, hb2⟩ := calls_of_owns hou rfl
              refine ⟨a2, cap2, ?_, ?_⟩
              · rw [World.cell?_of_block (w := W6) (a := ⟨g, i, none⟩) ((KF.out g (by omega)).trans (N.out.kept g hg2 (by omega) (by omega)))]
                rw [S.out.own.cellAt i (by omega)]
                exact hu
              · refine hc2.keep fun x o u hx hcell => ?_
                have hlt := World.block_lt_of_cell? W6 _ hcell
                have hgt := (hb2 x hx).1
                simp only at hlt
                rw [World.cell?_of_block (w := W6) (a := ⟨x.block, o, none⟩) ((KF.out x.block (by omega)).trans (N.out.kept x.block hlt (by omega) (by omega)))]
                exact hcell
            · have hbs := N.out.own
              have e1 : (scr b).picks = picksFrom b P j := by simp only [scr, ← HNN.out, ← HP.out, ← HM.out]
              rw [e1, picksFrom_len]
              have hown1 : WF.ownsRow W6.heap.size 3 1 (.slice av j cv) j ((picksFrom b P j).map encI) := hbs.kept OF.out.g (.inr (fun e => by have := (hbs.lt V e).1; have := N.out.big; omega))
              exact owns_mono hown1 (by have := N.out.big; omega)
end Go.Proofs.Ytdjhkiahpidldaa
