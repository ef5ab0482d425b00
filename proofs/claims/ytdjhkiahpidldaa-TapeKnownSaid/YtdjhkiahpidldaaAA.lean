/- The walk over the reference's Bytes. -/
import Derived.Test.YtdjhkiahpidldaaN
import Derived.Test.YtdjhkiahpidldaaS
namespace Go.Proofs.Ytdjhkiahpidldaa
open Go.RowKit

attribute [local go_sem ↓] Go.wp_at_zero Go.wp_at_succ
/-- what stands while the reference's Bytes writes: the box V of the script, the bytes ys in v -/
structure RSt (w : World) (V : Nat) (cs : Array Value) (ys : List Int) (v : Value) (wr : World) : Prop where
  own : wr.ownsRow w.heap.size 5 1 v ys.length (ys.map encU)
  bV : Blk wr V cs 27
  below : Below w.heap.size w wr
theorem RSt.alloc {w : World} {V : Nat} {cs : Array Value} {ys : List Int} {v : Value} {wr : World} (h : RSt w V cs ys v wr) (o : Obj) : RSt w V cs ys v (wr.alloc o) := ⟨h.own.alloc o, h.bV.alloc o, h.below.alloc h.below.size o⟩
theorem RSt.next {w : World} {V : Nat} {cs : Array Value} {ys xs : List Int} {v v' : Value} {wr w1 : World} {o : Obj} {n : Nat} (h : RSt w V cs ys v wr) (hg : (wr.alloc o).grownBy w1 v.ownBlock) (hl : ys.length + xs.length = n) (hown : w1.ownsRow w.heap.size 5 1 v' n (ys.map encU ++ xs.map encU)) : RSt w V cs (ys ++ xs) v' w1 :=
  ⟨by rw [List.length_append, List.map_append, hl]; exact hown, (h.bV.alloc o).grown hg (by intro e; exact own_blk h.own h.bV (by decide) e.symm),
    (h.below.alloc h.below.size o).grown hg (by have := h.below.size; simp; omega) (fun j ej => (h.own.lt j ej).1)⟩
theorem raw0_lit {s : Scr} (h1 : 1 ≤ s.cpus) (h2 : s.cpus ≤ 8) (h3 : 1 ≤ s.pages) (h4 : s.pages ≤ 1024) : ((rawk s 0).map m8).map encU = [.int .u8 (s.cpus - 1), .int .u8 ((s.pages - 1) / 256), .int .u8 ((s.pages - 1) % 256)] := by
  rw [rawk_zero]
  simp only [raw0, List.map_cons, List.map_nil, m8, encU, List.cons.injEq, Value.int.injEq, true_and, and_true]
  omega
theorem m8_in {n : Int} (h0 : 0 ≤ n) (h1 : n ≤ 255) : m8 n = n := by unfold m8; omega
set_option maxRecDepth 100000 in
set_option maxHeartbeats 1000000 in
theorem rbytes_any (v : Value) (s : Scr) (w : World) (h : ScrAt w v s) : Calls Try.prog 17 #[v] w fun e w' => ∃ v', e = .returned (.tuple #[v', .int .i64 (chkE s)]) ∧ w'.ownsRow w.heap.size 5 1 v' (bytesE s).length ((bytesE s).map encU) ∧ Below w.heap.size w w' := by
  obtain ⟨a1, cc1, ap1, cp1, rfl, hl1, hp1⟩ := h.val
  have HS := Lib.hid (h.below ((Below.refl _ _).alloc (Nat.le_refl _) (.cells #[.int .i64 s.cpus, .int .i64 s.pages, .slice a1 s.calls.length cc1, .slice ap1 s.picks.length cp1] 27)))
  have BW := Lib.hid (show Below w.heap.size w (w.alloc (.cells #[.int .i64 s.cpus, .int .i64 s.pages, .slice a1 s.calls.length cc1, .slice ap1 s.picks.length cp1] 27)) from (Below.refl _ _).alloc (Nat.le_refl _) _)
  have T := Lib.hid (Blk.new w #[.int .i64 s.cpus, .int .i64 s.pages, .slice a1 s.calls.length cc1, .slice ap1 s.picks.length cp1] 27)
  have HL1 := Lib.hid hl1
  have HP1 := Lib.hid hp1
  have hc1 := h.lc
  have hlp := hp1.len
  clear h hl1 hp1
  obtain ⟨i0, hi, hz0, hz1, hz2⟩ := info_parts info5
  obtain ⟨bv, hbv⟩ : ∃ b, validB s = b := ⟨_, rfl⟩
  go_enter Try.func17, Try.ntmps17
  go_wp2_with fail
  generalize w.alloc (.cells #[.int .i64 s.cpus, .int .i64 s.pages, .slice a1 s.calls.length cc1, .slice ap1 s.picks.length cp1] 27) = W at *
  refine (rcheck_any _ s _ HS.out).mono ?_
  rintro e W1 ⟨rfl, hb1⟩
  have B1 := Lib.hid (on BW.out hb1)
  have T1 := Lib.hid (T.out.below hb1)
  clear hb1 HS BW T
  cases bv with
  | false =>
    have hE : chkE s = 2 := by unfold chkE; rw [hbv]; rfl
    have hY : bytesE s = [] := by unfold bytesE; rw [hbv]; rfl
    have HE := Lib.hid (And.intro hE hY)
    rw [hE]
    clear hE hY hbv
    go_wp2_with fail
    go_ret2
    exact ⟨.slice none 0 0, by rw [HE.out.1]; rfl, by rw [HE.out.2]; exact World.ownsRow_nil _ _ _ _, B1.out⟩
  | true =>
    obtain ⟨⟨c1, c2⟩, ⟨c3, c4⟩, hcl, hpl, hls, hps⟩ := valid_parts hbv
    have hE : chkE s = 0 := by unfold chkE; rw [hbv]; rfl
    have hY : bytesE s = (raw s).map m8 := by unfold bytesE; rw [hbv]; rfl
    have HE := Lib.hid (And.intro hE hY)
    have LS := Lib.hid hls
    have hc8 : s.calls.length ≤ 8 := by omega
    have HLK := Lib.hid (len_rawk s fun x hx => (hls x hx).1)
    have HLM := Lib.hid (len_rawm s fun x hx => (hls x hx).1)
    rw [hE]
    have HPS := Lib.hid hps
    clear hE hY hbv hls hps hcl
    have q := tcells T1.out
    obtain ⟨q0, q1, q2, q3⟩ := q
    have p0 : (0 : Int) ≤ s.pages - 1 := by omega
    go_wp2_with fail
    have ST0 := Lib.hid (show RSt w w.heap.size #[.int .i64 s.cpus, .int .i64 s.pages, .slice a1 s.calls.length cc1, .slice ap1 s.picks.length cp1] ((rawk s 0).map m8) (.slice (some ⟨W1.heap.size, 0, none⟩) 3 3) (W1.alloc (.cells #[.int .u8 (s.cpus - 1), .int .u8 ((s.pages - 1) / 256), .int .u8 ((s.pages - 1) % 256)] 5)) from
      ⟨by rw [raw0_lit c1 c2 c3 c4]; exact World.ownsRow_lit W1 #[.int .u8 (s.cpus - 1), .int .u8 ((s.pages - 1) / 256), .int .u8 ((s.pages - 1) % 256)] 3 B1.out.size (by decide) rfl, T1.out.alloc _, B1.out.alloc B1.out.size _⟩)
    clear q0 q1 q2 q3 T1 B1
    obtain ⟨cs, hcs⟩ : ∃ cs : Array Value, cs = #[.int .i64 s.cpus, .int .i64 s.pages, .slice a1 s.calls.length cc1, .slice ap1 s.picks.length cp1] := ⟨_, rfl⟩
    rw [← hcs] at ST0
    have HCS := Lib.hid hcs
    clear hcs
    go_loopw [5, 6] (fun o i wr => ∃ k : Nat, k ≤ s.calls.length ∧ i = .int .i64 k ∧ RSt w w.heap.size cs ((rawk s k).map m8) o wr) (fun _ i _ => s.calls.length - (intOf i).toNat)
    case atStart => exact ⟨0, Nat.zero_le _, rfl, ST0.out⟩
    case round =>
      clear ST0
      obtain ⟨k, hk, rfl, hS⟩ := hrel
      have ST := Lib.hid hS
      have t2 := hS.bV.cell (i := 2) (v := .slice a1 s.calls.length cc1) (by rw [HCS.out]; rfl)
      have HN := Lib.hid (show ((rawk s k).map m8).length ≤ 2571 by rw [List.length_map]; exact HLK.out k (by omega))
      clear hS
      by_cases hlt : k < s.calls.length
      · obtain ⟨g, off, rfl, hLs⟩ := HL1.out (by intro e; rw [e] at hlt; simp at hlt)
        obtain ⟨l, hl⟩ : ∃ l, s.calls[k]? = some l := ⟨_, List.getElem?_eq_getElem hlt⟩
        obtain ⟨la, lc, c1', hI⟩ := hLs k l hl
        have hll := (LS.out l (List.mem_of_getElem? hl)).1
        have HM := Lib.hid (LS.out l (List.mem_of_getElem? hl)).2
        have HX := Lib.hid (rawk_succ hl)
        have HI := Lib.hid hI
        have C1 := Lib.hid c1'
        replace c1' := below_cell ST.out.below (Nat.le_refl _) c1'
        have i0' : (0 : Int) ≤ (k : Int) := by omega
        have i1 : (k : Int) < (s.calls.length : Int) := by omega
        have hk8 : k ≤ 8 := by omega
        have HZ := Lib.hid (show (rawm s k l 0).map m8 = (rawk s k).map m8 ++ [(l.length : Int)] by rw [rawm_zero, List.map_append, List.map_cons, List.map_nil, m8_in (by omega) (by omega)])
        clear hLs hl hI
        go_wp2_with (at_builtin; refine wpList_append_own _ rfl _ _ 22 rfl w.heap.size 5 i0 (.int .u8 0) 1 1 Try.underlying22 hi hz0 hz1 hz2 rfl (by decide) _ _ _ rfl (ST.out.own.alloc _) ⟨wr.heap.size, 0, none⟩ 1 1 [.int .u8 (l.length : Int)] rfl rfl (cell_one_new _ _ _) (by simp [Value.oneCell']) (by have := HN.out; unfold maxLen; omega) (by have := HN.out; omega) (by have := ST.out.below.size; simp; omega) ?_; intro v' w1 hown' hgrow _)
        have nx := ST.out.next hgrow (xs := [(l.length : Int)]) rfl hown'
        rw [← HZ.out] at nx
        have ST1 := Lib.hid nx
        clear nx hown' hgrow ST HZ t2 c1' HN
        go_wp2_with fail
        go_loopw [5, 7] (fun o i wr => ∃ m : Nat, m ≤ l.length ∧ i = .int .i64 m ∧ RSt w w.heap.size cs ((rawm s k l m).map m8) o wr) (fun _ i _ => l.length - (intOf i).toNat)
        case atStart => exact ⟨0, Nat.zero_le _, rfl, ST1.out⟩
        case round =>
          clear ST1
          obtain ⟨m, hm, rfl, hS⟩ := hrel
          have ST := Lib.hid hS
          have t2 := hS.bV.cell (i := 2) (v := .slice (some ⟨g, off, none⟩) s.calls.length cc1) (by rw [HCS.out]; rfl)
          have c1' := below_cell ST.out.below (Nat.le_refl _) C1.out
          have HN := Lib.hid (show ((rawm s k l m).map m8).length ≤ 2892 by rw [List.length_map]; exact HLM.out k hk8 l hll m)
          clear hS
          by_cases hml : m < l.length
          · obtain ⟨⟨x0, x1, x2, x3⟩, hx⟩ : ∃ x, l[m]? = some x := ⟨_, List.getElem?_eq_getElem hml⟩
            obtain ⟨⟨m0, m1⟩, ⟨m2, m3⟩, ⟨m4, m5⟩, ⟨m6, m7⟩⟩ := may_parts (HM.out _ (List.mem_of_getElem? hx))
            obtain ⟨g2, off2, rfl, hc⟩ := HI.out (by intro e; rw [e] at hml; simp at hml)
            obtain ⟨d0, d1, d2, d3⟩ := hc m _ hx
            replace d0 := below_cell ST.out.below (Nat.le_refl _) d0
            replace d1 := below_cell ST.out.below (Nat.le_refl _) d1
            replace d2 := below_cell ST.out.below (Nat.le_refl _) d2
            replace d3 := below_cell ST.out.below (Nat.le_refl _) d3
            have j0 : (0 : Int) ≤ (m : Int) := by omega
            have j1 : (m : Int) < (l.length : Int) := by omega
            dsimp only at d0 d1 d2 d3 m0 m1 m2 m3 m4 m5 m6 m7
            have HX2 := Lib.hid (show (rawm s k l (m + 1)).map m8 = (rawm s k l m).map m8 ++ [x0, x1, x2 / 256, x2 % 256, x3] by
              rw [rawm_succ (s := s) (k := k) hx, List.map_append]
              have e0 := m8_in m0 (show x0 ≤ 255 by omega)
              have e1 := m8_in m2 m3
              have e2 := m8_in (n := x2 / 256) (by omega) (by omega)
              have e4 := m8_in m6 m7
              simp only [encC, List.map_cons, List.map_nil, e0, e1, e2, e4]
              rfl)
            clear hx hc
            have hT5 : Blk ((wr.alloc (.cells #[.int .i64 x0, .int .i64 x1, .int .i64 x2, .int .i64 x3] 44)).alloc (.cells #[.int .u8 x0, .int .u8 x1, .int .u8 (x2 / 256), .int .u8 (x2 % 256), .int .u8 x3] 5)) (wr.heap.size + 1) #[.int .u8 x0, .int .u8 x1, .int .u8 (x2 / 256), .int .u8 (x2 % 256), .int .u8 x3] 5 := by
              have := Blk.new (wr.alloc (.cells #[.int .i64 x0, .int .i64 x1, .int .i64 x2, .int .i64 x3] 44)) #[.int .u8 x0, .int .u8 x1, .int .u8 (x2 / 256), .int .u8 (x2 % 256), .int .u8 x3] 5
              simpa using this
            have T5 := Lib.hid hT5
            clear hT5
            go_wp2_with (at_builtin; refine wpList_append_own _ rfl _ _ 22 rfl w.heap.size 5 i0 (.int .u8 0) 1 1 Try.underlying22 hi hz0 hz1 hz2 rfl (by decide) _ _ _ rfl ((ST.out.own.alloc _).alloc _) ⟨wr.heap.size + 1, 0, none⟩ 5 5 [.int .u8 x0, .int .u8 x1, .int .u8 (x2 / 256), .int .u8 (x2 % 256), .int .u8 x3] rfl rfl (World.news_of_block (cs := #[.int .u8 x0, .int .u8 x1, .int .u8 (x2 / 256), .int .u8 (x2 % 256), .int .u8 x3]) (t := 5) (fr := (0, 0)) T5.out) (by simp [Value.oneCell']) (by have := HN.out; unfold maxLen; omega) (by have := HN.out; omega) (by have := ST.out.below.size; simp; omega) ?_; intro v' w1 hown' hgrow _)
            have nx := (ST.out.alloc (.cells #[.int .i64 x0, .int .i64 x1, .int .i64 x2, .int .i64 x3] 44)).next hgrow (xs := [x0, x1, x2 / 256, x2 % 256, x3]) rfl hown'
            rw [← HX2.out] at nx
            have ST2 := Lib.hid nx
            clear nx hown' hgrow ST T5 HX2 d0 d1 d2 d3 t2 c1' HN
            go_wp2_with fail
            go_roundw
            case rel => exact ⟨m + 1, by omega, by go_num, ST2.out⟩
            case measure => simp [intOf]; omega
          · obtain rfl : m = l.length := by omega
            have hx2 := ST.out
            rw [← HX.out] at hx2
            have ST2 := Lib.hid hx2
            clear hx2 ST
            go_wp2_with fail
            go_roundw
            case rel => exact ⟨k + 1, by omega, by go_num, ST2.out⟩
            case measure => simp [intOf]; omega
      · obtain rfl : k = s.calls.length := by omega
        go_wp2_with fail
        clear HN t2
        go_loopw [5, 9] (fun o i wr => ∃ m : Nat, m ≤ s.picks.length ∧ i = .int .i64 m ∧ RSt w w.heap.size cs ((rawk s s.calls.length ++ s.picks.take m).map m8) o wr) (fun _ i _ => s.picks.length - (intOf i).toNat)
        case atStart => exact ⟨0, Nat.zero_le _, rfl, by simpa using ST.out⟩
        case round =>
          clear ST
          obtain ⟨m, hm, rfl, hS⟩ := hrel
          have ST := Lib.hid hS
          have t3 := hS.bV.cell (i := 3) (v := .slice ap1 s.picks.length cp1) (by rw [HCS.out]; rfl)
          have HN := Lib.hid (show ((rawk s s.calls.length ++ s.picks.take m).map m8).length ≤ 6667 by
            rw [List.length_map, List.length_append, List.length_take]; have := HLK.out s.calls.length hc8; omega)
          clear hS
          by_cases hml : m < s.picks.length
          · obtain ⟨g, off, x, rfl, hx, d0⟩ := (HP1.out.keep fun _ _ _ hc => below_cell ST.out.below (Nat.le_refl _) hc).at hml
            obtain ⟨m0, m1⟩ := HPS.out x (List.mem_of_getElem? hx)
            have HX := Lib.hid (show (rawk s s.calls.length ++ s.picks.take (m + 1)).map m8 = (rawk s s.calls.length ++ s.picks.take m).map m8 ++ [x] by
              rw [take_succ hx, ← List.append_assoc, List.map_append (l₂ := [x]), List.map_cons, List.map_nil, m8_in m0 m1])
            have j0 : (0 : Int) ≤ (m : Int) := by omega
            have j1 : (m : Int) < (s.picks.length : Int) := by omega
            clear hx
            go_wp2_with (at_builtin; refine wpList_append_own _ rfl _ _ 22 rfl w.heap.size 5 i0 (.int .u8 0) 1 1 Try.underlying22 hi hz0 hz1 hz2 rfl (by decide) _ _ _ rfl (ST.out.own.alloc _) ⟨wr.heap.size, 0, none⟩ 1 1 [.int .u8 x] rfl rfl (cell_one_new _ _ _) (by simp [Value.oneCell']) (by have := HN.out; unfold maxLen; omega) (by have := HN.out; omega) (by have := ST.out.below.size; simp; omega) ?_; intro v' w1 hown' hgrow _)
            have nx := ST.out.next hgrow (xs := [x]) rfl hown'
            rw [← HX.out] at nx
            have ST2 := Lib.hid nx
            clear nx hown' hgrow ST HX d0 t3 HN
            go_wp2_with fail
            go_roundw
            case rel => exact ⟨m + 1, by omega, by go_num, ST2.out⟩
            case measure => simp [intOf]; omega
          · obtain rfl : m = s.picks.length := by omega
            have hx2 := ST.out
            rw [List.take_length, raw_all] at hx2
            have ST2 := Lib.hid hx2
            clear hx2 ST
            go_wp2_with fail
            go_ret2
            exact ⟨_, by rw [HE.out.1]; rfl, by rw [HE.out.2]; exact ST2.out.own, ST2.out.below⟩
end Go.Proofs.Ytdjhkiahpidldaa
