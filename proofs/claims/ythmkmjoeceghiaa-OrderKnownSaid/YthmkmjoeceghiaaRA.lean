/- The walk over the program's Line. -/
import Derived.Test.YthmkmjoeceghiaaPN
import Derived.Deep.DeepCutAuto
namespace Go.Proofs.Ythmkmjoeceghiaa
open Go.RowKit

attribute [local go_sem ↓] Go.wp_at_zero Go.wp_at_succ
set_option maxRecDepth 100000 in
set_option maxHeartbeats 8000000 in
theorem line_any (l : List Sp) (a : Option Addr) (cap : Nat) (w : World) (hl : l.length ≤ 5000000000000) (hw : WfS l) (hI : IsSpans w a l) : Calls Try.prog 26 #[.slice a l.length cap] w (LineIs l w) := by
  have HI := Lib.hid hI
  have HWF := Lib.hid (show ∀ i, i < l.length → WfO (sp l i).1.2 from fun i hi => by
    rw [sp_at (List.getElem?_eq_getElem hi)]; exact hw _ (List.getElem_mem hi))
  have hck := check_any l a cap w (by omega) hI
  obtain ⟨ii, hi, hz0, hz1, hz2⟩ := info_parts info78
  have hmm := @run_makeMap Try.prog
  clear hI hw
  by_cases h0 : chk l = 0
  · rw [h0] at hck
    have hl256 := (chk_zero h0).1
    have HV := Lib.hid (chk_zero h0).2
    have H0 := Lib.hid h0
    clear h0
    go_enter Try.func26, Try.ntmps26
    go_wp2_with fail
    refine hck.mono ?_
    rintro e w1 ⟨rfl, hb⟩
    have B1 := Lib.hid hb
    clear hb hck
    go_wp2_with fail
    refine (new_any w1).mono ?_
    rintro e w2 ⟨rfl, hH, hb⟩
    have hw1 := B1.out.size
    have hs2 := hb.size
    have hHM := hH.lt
    have hHB := hH.bB.lt
    have BB := Lib.hid (on2 B1.out hb)
    have hb3 : Below w2.heap.size w2 ((w2.alloc (.map #[] 0)).alloc (.cells #[.pointer (some ⟨w1.heap.size + 1, 0, none⟩), .slice none 0 0, .map (some w2.heap.size), .slice none 0 0] 77)) := ((Below.refl _ _).alloc (Nat.le_refl _) _).alloc (by simp) _
    have hm3 := Blk.new (w2.alloc (.map #[] 0)) #[.pointer (some ⟨w1.heap.size + 1, 0, none⟩), .slice none 0 0, .map (some w2.heap.size), .slice none 0 0] 77
    rw [show (w2.alloc (.map #[] 0)).heap.size = w2.heap.size + 1 by simp] at hm3
    have S1 := Lib.hid (show L1 l w (w2.heap.size + 1) (w1.heap.size + 1) w1.heap.size w2.heap.size (w2.heap.size + 2) 0 (.slice none 0 0) (fun _ => 0) D0 ((w2.alloc (.map #[] 0)).alloc (.cells #[.pointer (some ⟨w1.heap.size + 1, 0, none⟩), .slice none 0 0, .map (some w2.heap.size), .slice none 0 0] 77)) from
      ⟨hm3, fun j hj => absurd hj (Nat.not_lt_zero _), fun j hj => absurd hj (Nat.not_lt_zero _), fun j k hj => absurd hj (Nat.not_lt_zero _), World.ownsRow_nil _ _ _ _, hH.below hb3, (World.ownsMap_made w2 Try.prog 84 valR).alloc _,
        on2 BB.out hb3, by simp, by omega, by omega, by omega, hw1, by omega, by omega, by omega, by omega⟩)
    clear B1 hb hH hb3 hm3
    go_wp2_with fail
    clear hmm BB
    generalize ((w2.alloc (.map #[] 0)).alloc (.cells #[.pointer (some ⟨w1.heap.size + 1, 0, none⟩), .slice none 0 0, .map (some w2.heap.size), .slice none 0 0] 77)) = w3 at *
    generalize w2.heap.size + 1 = mb at *
    generalize w2.heap.size + 2 = bas at *
    generalize w2.heap.size = Mb at *
    generalize w1.heap.size + 1 = hB at *
    generalize w1.heap.size = hM at *
    clear hw1 hs2 hHM hHB
    go_loopw [25] (fun iv wr => ∃ (i : Nat) (cv : Value) (cb : Nat → Nat), i ≤ l.length ∧ iv = .int .i64 i ∧ L1 l w mb hB hM Mb bas i cv cb D0 wr) (fun iv _ => l.length - (intOf iv).toNat)
    case atStart => exact ⟨0, _, _, Nat.zero_le _, rfl, S1.out⟩
    case round =>
      clear S1
      obtain ⟨i, cv, cb, hil, rfl, hL⟩ := hrel
      have LL := Lib.hid hL
      clear hL
      by_cases hlt : i < l.length
      · obtain ⟨g, off, rfl⟩ := HI.out.form (by omega)
        obtain ⟨d0, d1, d2, d3, d4, d5⟩ := (HI.out.below LL.out.below).at hlt
        have i1 : (0 : Int) ≤ (i : Int) := by omega
        have i2 : (i : Int) < (l.length : Int) := by omega
        have T1 := Lib.hid (Blk.new wr #[.int .i64 (sp l i).1.1, .int .i64 (sp l i).1.2.1, .int .i64 (sp l i).1.2.2.1, .int .i64 (sp l i).1.2.2.2, .int .i64 (sp l i).2.1, .int .i64 (sp l i).2.2] 50)
        have LA := Lib.hid (LL.out.below' ((Below.refl wr.heap.size wr).alloc (Nat.le_refl _) (.cells #[.int .i64 (sp l i).1.1, .int .i64 (sp l i).1.2.1, .int .i64 (sp l i).1.2.2.1, .int .i64 (sp l i).1.2.2.2, .int .i64 (sp l i).2.1, .int .i64 (sp l i).2.2] 50)))
        go_wp2_with fail
        clear d0 d1 d2 d3 d4 d5
        obtain ⟨T7, hT7⟩ : ∃ t, t = wr.heap.size := ⟨_, rfl⟩
        rw [← hT7] at T1 ⊢
        have hsw : (wr.alloc (.cells #[.int .i64 (sp l i).1.1, .int .i64 (sp l i).1.2.1, .int .i64 (sp l i).1.2.2.1, .int .i64 (sp l i).1.2.2.2, .int .i64 (sp l i).2.1, .int .i64 (sp l i).2.2] 50)).drew.heap.size = T7 + 1 := by rw [hT7]; simp
        have LB := Lib.hid (LA.out.below' (Below.refl _ _).drew)
        have TB := Lib.hid (show Blk (wr.alloc (.cells #[.int .i64 (sp l i).1.1, .int .i64 (sp l i).1.2.1, .int .i64 (sp l i).1.2.2.1, .int .i64 (sp l i).1.2.2.2, .int .i64 (sp l i).2.1, .int .i64 (sp l i).2.2] 50)).drew T7 #[.int .i64 (sp l i).1.1, .int .i64 (sp l i).1.2.1, .int .i64 (sp l i).1.2.2.1, .int .i64 (sp l i).1.2.2.2, .int .i64 (sp l i).2.1, .int .i64 (sp l i).2.2] 50 from T1.out)
        clear T1 LA hT7
        refine till_start 13 (fun w' : World => w'.frozen? ⟨mb, 1, none⟩ = false ∧ w'.cell? ⟨mb, 1, none⟩ = some cv ∧ w'.cell? ⟨T7, 0, none⟩ = some (.int .i64 (sp l i).1.1) ∧ w'.cell? ⟨T7, 1, none⟩ = some (.int .i64 (sp l i).1.2.1) ∧ w'.cell? ⟨T7, 2, none⟩ = some (.int .i64 (sp l i).1.2.2.1) ∧
          w'.cell? ⟨T7, 3, none⟩ = some (.int .i64 (sp l i).1.2.2.2) ∧ w'.cell? ⟨T7, 4, none⟩ = some (.int .i64 (sp l i).2.1) ∧ w'.cell? ⟨T7, 5, none⟩ = some (.int .i64 (sp l i).2.2)) (by kernel_rfl) ?_
        generalize (wr.alloc (.cells #[.int .i64 (sp l i).1.1, .int .i64 (sp l i).1.2.1, .int .i64 (sp l i).1.2.2.1, .int .i64 (sp l i).1.2.2.2, .int .i64 (sp l i).2.1, .int .i64 (sp l i).2.2] 50)).drew = wA at *
        have BOF : ∀ W : World, Blk W mb #[.pointer (some ⟨hB, 0, none⟩), cv, .map (some Mb), .slice none 0 0] 77 → Blk W T7 #[.int .i64 (sp l i).1.1, .int .i64 (sp l i).1.2.1, .int .i64 (sp l i).1.2.2.1, .int .i64 (sp l i).1.2.2.2, .int .i64 (sp l i).2.1, .int .i64 (sp l i).2.2] 50 →
            W.frozen? ⟨mb, 1, none⟩ = false ∧ W.cell? ⟨mb, 1, none⟩ = some cv ∧ W.cell? ⟨T7, 0, none⟩ = some (.int .i64 (sp l i).1.1) ∧ W.cell? ⟨T7, 1, none⟩ = some (.int .i64 (sp l i).1.2.1) ∧ W.cell? ⟨T7, 2, none⟩ = some (.int .i64 (sp l i).1.2.2.1) ∧
          W.cell? ⟨T7, 3, none⟩ = some (.int .i64 (sp l i).1.2.2.2) ∧ W.cell? ⟨T7, 4, none⟩ = some (.int .i64 (sp l i).2.1) ∧ W.cell? ⟨T7, 5, none⟩ = some (.int .i64 (sp l i).2.2) := fun _ h1 h2 => ⟨h1.frozen 1, h1.cell rfl, h2.cell rfl, h2.cell rfl, h2.cell rfl, h2.cell rfl, h2.cell rfl, h2.cell rfl⟩
        have BO := Lib.hid BOF
        have hHB := BOF _ LB.out.m TB.out
        clear BOF hsw
        refine till_take (i := 0) (v := ?_) rfl (by kernel_rfl) (by kernel_rfl) (by kernel_rfl) (by kernel_rfl) (fun _ _ _ h => h) (Or.inl ⟨by rfl, ?_⟩) hHB ?_
        rotate_left
        · (intro w hSw; (try dsimp only at hSw); go_simp; try with_reducible rfl)
        try simp only [Act.put, List.setIfInBounds_toArray, List.set_cons_zero, List.set_cons_succ]
        refine till_take (i := 1) (v := ?_) rfl (by kernel_rfl) (by kernel_rfl) (by kernel_rfl) (by kernel_rfl) (fun _ _ _ h => h) (Or.inl ⟨by rfl, ?_⟩) hHB ?_
        rotate_left
        · (intro w hSw; (try dsimp only at hSw); go_simp; try with_reducible rfl)
        try simp only [Act.put, List.setIfInBounds_toArray, List.set_cons_zero, List.set_cons_succ]
        refine till_take (i := 2) (v := ?_) rfl (by kernel_rfl) (by kernel_rfl) (by kernel_rfl) (by kernel_rfl) (fun _ _ _ h => h) (Or.inl ⟨by rfl, ?_⟩) hHB ?_
        rotate_left
        · (intro w hSw; (try dsimp only at hSw); go_simp; try with_reducible rfl)
        try simp only [Act.put, List.setIfInBounds_toArray, List.set_cons_zero, List.set_cons_succ]
        refine till_take (i := 3) (v := ?_) rfl (by kernel_rfl) (by kernel_rfl) (by kernel_rfl) (by kernel_rfl) (fun _ _ _ h => h) (Or.inl ⟨by rfl, ?_⟩) hHB ?_
        rotate_left
        · (intro w hSw; (try dsimp only at hSw); go_simp; try with_reducible rfl)
        try simp only [Act.put, List.setIfInBounds_toArray, List.set_cons_zero, List.set_cons_succ]
        refine till_take (i := 4) (v := ?_) rfl (by kernel_rfl) (by kernel_rfl) (by kernel_rfl) (by kernel_rfl) (fun _ _ _ h => h) (Or.inl ⟨by rfl, ?_⟩) hHB ?_
        rotate_left
        · (intro w hSw; (try dsimp only at hSw); go_simp; try with_reducible rfl)
        try simp only [Act.put, List.setIfInBounds_toArray, List.set_cons_zero, List.set_cons_succ]
        refine till_take (i := 5) (v := ?_) rfl (by kernel_rfl) (by kernel_rfl) (by kernel_rfl) (by kernel_rfl) (fun _ _ _ h => h) (Or.inl ⟨by rfl, ?_⟩) hHB ?_
        rotate_left
        · (intro w hSw; (try dsimp only at hSw); go_simp; try with_reducible rfl)
        try simp only [Act.put, List.setIfInBounds_toArray, List.set_cons_zero, List.set_cons_succ]
        refine till_take (i := 6) (v := ?_) rfl (by kernel_rfl) (by kernel_rfl) (by kernel_rfl) (by kernel_rfl) (fun _ _ _ h => h) (Or.inl ⟨by rfl, ?_⟩) hHB ?_
        rotate_left
        · (intro w hSw; (try dsimp only at hSw); go_simp; try with_reducible rfl)
        try simp only [Act.put, List.setIfInBounds_toArray, List.set_cons_zero, List.set_cons_succ]
        refine till_take (i := 7) (v := ?_) rfl (by kernel_rfl) (by kernel_rfl) (by kernel_rfl) (by kernel_rfl) (fun _ _ _ h => h) (Or.inl ⟨by rfl, ?_⟩) hHB ?_
        rotate_left
        · (intro w hSw; (try dsimp only at hSw); go_simp; try with_reducible rfl)
        try simp only [Act.put, List.setIfInBounds_toArray, List.set_cons_zero, List.set_cons_succ]
        clear hHB
        refine till_one (i := 8) (by kernel_rfl) rfl (fun K hK => ?_)
        go_simp
        refine hK.out _ _ (fun _ => BO.out _ (LB.out.m.alloc _) (TB.out.alloc _)) ?_
        clear hK K
        try simp only [Act.put, List.setIfInBounds_toArray, List.set_cons_zero, List.set_cons_succ]
        refine till_one (i := 9) (by kernel_rfl) rfl (fun K hK => ?_)
        go_simp
        refine hK.out _ _ (fun _ => BO.out _ ((LB.out.m.alloc _).alloc _) ((TB.out.alloc _).alloc _)) ?_
        clear hK K
        try simp only [Act.put, List.setIfInBounds_toArray, List.set_cons_zero, List.set_cons_succ]
        refine till_one (i := 10) (by kernel_rfl) rfl (fun K hK => ?_)
        have HF := Lib.hid LB.out.far
        (refine step_append_lies _ (by rfl) _ _ _ (by rfl) bas 78 ii _ 1 8 Try.underlying75 hi hz0 hz1 hz2 rfl (by omega) cv i _ (by rfl) ((LB.out.own.alloc _).alloc _)
                ⟨wA.heap.size + 1, 0, none⟩ 1 1 [.pointer (some ⟨wA.heap.size, 0, none⟩)] (by rfl) (by rfl) (World.news_of_block (cs := #[.pointer (some ⟨wA.heap.size, 0, none⟩)]) (t := 78) (fr := (0, 0)) (by simpa using heap_alloc_new (wA.alloc (.cells (clC (sp l i) i false) 80)) _)) (by simp [Value.oneCell'])
                (by omega) (by unfold maxLen; omega) (by omega) (by have := LB.out.big; simp; omega) (wA.heap.size + 2) (by simp) ?_; intro gg cc w4 hown1 hgrow hat hlt)
        have hbk : ∀ {b : Nat} {cs : Array Value} {t : TypeId}, Blk wA b cs t → t ≠ 78 → Blk w4 b cs t := fun hb ht => ((hb.alloc (.cells (clC (sp l i) i false) 80)).alloc (.cells #[.pointer (some ⟨wA.heap.size, 0, none⟩)] 78)).grown hgrow (fun e => by
          obtain ⟨cs', t', h1, h2⟩ := own_cells LB.out.own _ e.symm
          exact blk_ne hb h1 (by rw [h2]; exact ht) rfl)
        have M4 := Lib.hid (hbk LB.out.m (by decide))
        have T4 := Lib.hid (hbk TB.out (by decide))
        have L4 := Lib.hid (LB.out.step hgrow hown1)
        refine hK.out _ _ (fun _ => BO.out _ M4.out T4.out) ?_
        clear hK K hown1 hgrow hat hlt hbk
        try simp only [Act.put, List.setIfInBounds_toArray, List.set_cons_zero, List.set_cons_succ]
        refine till_one (i := 11) (by kernel_rfl) rfl (fun K hK => ?_)
        go_simp
        refine hK.out _ _ (fun _ => BO.out _ M4.out T4.out) ?_
        clear hK K
        try simp only [Act.put, List.setIfInBounds_toArray, List.set_cons_zero, List.set_cons_succ]
        refine till_one (i := 12) (by kernel_rfl) rfl (fun K hK => ?_)
        go_simp
        refine hK.out _ _ (fun _ => BO.out _ M4.out T4.out) ?_
        clear hK K
        try simp only [Act.put, List.setIfInBounds_toArray, List.set_cons_zero, List.set_cons_succ]
        have s2 := M4.out.frozen 1
        have s1 := M4.out.cell (i := 1) rfl
        refine till_one (i := 13) (by kernel_rfl) rfl (fun K hK => ?_)
        go_simp
        refine hK.out _ _ (fun h => absurd rfl h) ?_
        clear hK K s1 s2
        try simp only [Act.put, List.setIfInBounds_toArray, List.set_cons_zero, List.set_cons_succ]
        refine till_done (by kernel_rfl) ?_ _
        clear BO M4 T4 TB LB
        go_wp2_with fail
        go_roundw
        case rel => exact ⟨i + 1, _, _, by omega, by go_num, L4.out⟩
        case measure => simp [intOf]; omega
      · obtain rfl : i = l.length := by omega
        have m1 := LL.out.m.cell (i := 1) rfl
        simp at m1
        go_wp2_with fail
        refine (sorted_any l bas cb cv wr LL.out.own (fun j hj => LL.out.c j hj) hl256 HV.out).mono ?_
        rintro e w4 ⟨rfl, f, hO, hA, hS, hG⟩
        have AL := Lib.hid hA
        have SR := Lib.hid hS
        have SQ := Lib.hid (LL.out.sorted hO hG)
        clear hO hA hS hG LL m1
        obtain ⟨b2, hb2⟩ : ∃ b2, b2 = w4.heap.size := ⟨_, rfl⟩
        rw [← hb2] at SQ
        clear hb2
        obtain ⟨ca, cc, rfl, -, -⟩ := owns_form SQ.out.own
        have m1 := SQ.out.m.cell (i := 1) rfl
        simp at m1
        go_wp2_with fail
        clear m1
        go_loopw [54] (fun iv wr => ∃ (p : Nat) (D : DataW Value), p ≤ l.length ∧ iv = .int .i64 p ∧ L2 l w mb hB hM Mb bas b2 p (.slice ca l.length cc) cb f D wr) (fun iv _ => l.length - (intOf iv).toNat)
        case atStart => exact ⟨0, _, Nat.zero_le _, rfl, SQ.out⟩
        case round =>
          clear SQ
          obtain ⟨p, D, hpl, rfl, hL⟩ := hrel
          have LL := Lib.hid hL
          clear hL
          by_cases hlt : p < l.length
          · obtain ⟨g, c', hv, -, -⟩ := LL.out.own.form (by omega)
            obtain ⟨rfl, rfl⟩ : ca = some ⟨g, 0, none⟩ ∧ cc = c' := by injection hv with h1 _ h3; exact ⟨h1, h3⟩
            have hfl := AL.out.lt p hlt
            have ge := LL.out.own.cellAt p (by simp [ptrs, sig_len]; exact hlt)
            rw [ptrs_at, sig_at hlt] at ge
            simp only [Option.map_some, pv] at ge
            have i1 : (0 : Int) ≤ (p : Int) := by omega
            have i2 : (p : Int) < (l.length : Int) := by omega
            obtain ⟨i, hfi⟩ : ∃ i, i = f p := ⟨_, rfl⟩
            rw [← hfi] at hfl ge
            have HFI := Lib.hid hfi
            clear hfi
            have LB := Lib.hid (LL.out.below' (Below.refl _ _).drew)
            go_wp2_with fail
            clear ge
            refine till_start 14 (fun w' : World => w'.cell? ⟨cb i, 0, none⟩ = some (.int .i64 (sp l i).1.1) ∧ w'.cell? ⟨cb i, 1, none⟩ = some (.int .i64 (sp l i).1.2.1) ∧ w'.cell? ⟨cb i, 2, none⟩ = some (.int .i64 (sp l i).1.2.2.1) ∧
              w'.cell? ⟨cb i, 3, none⟩ = some (.int .i64 (sp l i).1.2.2.2)) (by kernel_rfl) ?_
            generalize wr.drew = wA at *
            have BOF : ∀ W : World, Blk W (cb i) (clC (sp l i) i false) 80 → W.cell? ⟨cb i, 0, none⟩ = some (.int .i64 (sp l i).1.1) ∧ W.cell? ⟨cb i, 1, none⟩ = some (.int .i64 (sp l i).1.2.1) ∧ W.cell? ⟨cb i, 2, none⟩ = some (.int .i64 (sp l i).1.2.2.1) ∧
              W.cell? ⟨cb i, 3, none⟩ = some (.int .i64 (sp l i).1.2.2.2) := fun _ h1 => ⟨h1.cell rfl, h1.cell rfl, h1.cell rfl, h1.cell rfl⟩
            have BO := Lib.hid BOF
            have hHB := BOF _ (LB.out.c i hfl)
            clear BOF
            refine till_take (i := 0) (v := ?_) rfl (by kernel_rfl) (by kernel_rfl) (by kernel_rfl) (by kernel_rfl) (fun _ _ _ h => h) (Or.inl ⟨by rfl, ?_⟩) hHB ?_
            rotate_left
            · (intro w hSw; (try dsimp only at hSw); go_simp; try with_reducible rfl)
            try simp only [Act.put, List.setIfInBounds_toArray, List.set_cons_zero, List.set_cons_succ]
            refine till_take (i := 1) (v := ?_) rfl (by kernel_rfl) (by kernel_rfl) (by kernel_rfl) (by kernel_rfl) (fun _ _ _ h => h) (Or.inl ⟨by rfl, ?_⟩) hHB ?_
            rotate_left
            · (intro w hSw; (try dsimp only at hSw); go_simp; try with_reducible rfl)
            try simp only [Act.put, List.setIfInBounds_toArray, List.set_cons_zero, List.set_cons_succ]
            refine till_take (i := 2) (v := ?_) rfl (by kernel_rfl) (by kernel_rfl) (by kernel_rfl) (by kernel_rfl) (fun _ _ _ h => h) (Or.inl ⟨by rfl, ?_⟩) hHB ?_
            rotate_left
            · (intro w hSw; (try dsimp only at hSw); go_simp; try with_reducible rfl)
            try simp only [Act.put, List.setIfInBounds_toArray, List.set_cons_zero, List.set_cons_succ]
            refine till_take (i := 3) (v := ?_) rfl (by kernel_rfl) (by kernel_rfl) (by kernel_rfl) (by kernel_rfl) (fun _ _ _ h => h) (Or.inl ⟨by rfl, ?_⟩) hHB ?_
            rotate_left
            · (intro w hSw; (try dsimp only at hSw); go_simp; try with_reducible rfl)
            try simp only [Act.put, List.setIfInBounds_toArray, List.set_cons_zero, List.set_cons_succ]
            refine till_take (i := 4) (v := ?_) rfl (by kernel_rfl) (by kernel_rfl) (by kernel_rfl) (by kernel_rfl) (fun _ _ _ h => h) (Or.inl ⟨by rfl, ?_⟩) hHB ?_
            rotate_left
            · (intro w hSw; (try dsimp only at hSw); go_simp; try with_reducible rfl)
            try simp only [Act.put, List.setIfInBounds_toArray, List.set_cons_zero, List.set_cons_succ]
            refine till_take (i := 5) (v := ?_) rfl (by kernel_rfl) (by kernel_rfl) (by kernel_rfl) (by kernel_rfl) (fun _ _ _ h => h) (Or.inl ⟨by rfl, ?_⟩) hHB ?_
            rotate_left
            · (intro w hSw; (try dsimp only at hSw); go_simp; try with_reducible rfl)
            try simp only [Act.put, List.setIfInBounds_toArray, List.set_cons_zero, List.set_cons_succ]
            refine till_take (i := 6) (v := ?_) rfl (by kernel_rfl) (by kernel_rfl) (by kernel_rfl) (by kernel_rfl) (fun _ _ _ h => h) (Or.inl ⟨by rfl, ?_⟩) hHB ?_
            rotate_left
            · (intro w hSw; (try dsimp only at hSw); go_simp; try with_reducible rfl)
            try simp only [Act.put, List.setIfInBounds_toArray, List.set_cons_zero, List.set_cons_succ]
            refine till_take (i := 7) (v := ?_) rfl (by kernel_rfl) (by kernel_rfl) (by kernel_rfl) (by kernel_rfl) (fun _ _ _ h => h) (Or.inl ⟨by rfl, ?_⟩) hHB ?_
            rotate_left
            · (intro w hSw; (try dsimp only at hSw); go_simp; try with_reducible rfl)
            try simp only [Act.put, List.setIfInBounds_toArray, List.set_cons_zero, List.set_cons_succ]
            refine till_take (i := 8) (v := ?_) rfl (by kernel_rfl) (by kernel_rfl) (by kernel_rfl) (by kernel_rfl) (fun _ _ _ h => h) (Or.inl ⟨by rfl, ?_⟩) hHB ?_
            rotate_left
            · (intro w hSw; (try dsimp only at hSw); go_simp; try with_reducible rfl)
            try simp only [Act.put, List.setIfInBounds_toArray, List.set_cons_zero, List.set_cons_succ]
            refine till_take (i := 9) (v := ?_) rfl (by kernel_rfl) (by kernel_rfl) (by kernel_rfl) (by kernel_rfl) (fun _ _ _ h => h) (Or.inl ⟨by rfl, ?_⟩) hHB ?_
            rotate_left
            · (intro w hSw; (try dsimp only at hSw); go_simp; try with_reducible rfl)
            try simp only [Act.put, List.setIfInBounds_toArray, List.set_cons_zero, List.set_cons_succ]
            refine till_take (i := 10) (v := ?_) rfl (by kernel_rfl) (by kernel_rfl) (by kernel_rfl) (by kernel_rfl) (fun _ _ _ h => h) (Or.inl ⟨by rfl, ?_⟩) hHB ?_
            rotate_left
            · (intro w hSw; (try dsimp only at hSw); go_simp; try with_reducible rfl)
            try simp only [Act.put, List.setIfInBounds_toArray, List.set_cons_zero, List.set_cons_succ]
            refine till_take (i := 11) (v := ?_) rfl (by kernel_rfl) (by kernel_rfl) (by kernel_rfl) (by kernel_rfl) (fun _ _ _ h => h) (Or.inl ⟨by rfl, ?_⟩) hHB ?_
            rotate_left
            · (intro w hSw; (try dsimp only at hSw); go_simp; try with_reducible rfl)
            try simp only [Act.put, List.setIfInBounds_toArray, List.set_cons_zero, List.set_cons_succ]
            refine till_take (i := 12) (v := ?_) rfl (by kernel_rfl) (by kernel_rfl) (by kernel_rfl) (by kernel_rfl) (fun _ _ _ h => h) (Or.inl ⟨by rfl, ?_⟩) hHB ?_
            rotate_left
            · (intro w hSw; (try dsimp only at hSw); go_simp; try with_reducible rfl)
            try simp only [Act.put, List.setIfInBounds_toArray, List.set_cons_zero, List.set_cons_succ]
            clear hHB
            refine till_one (i := 13) (by kernel_rfl) rfl (fun K hK => ?_)
            go_simp
            refine hK.out _ _ (fun _ => BO.out _ ((LB.out.c i hfl).alloc _)) ?_
            clear hK K
            try simp only [Act.put, List.setIfInBounds_toArray, List.set_cons_zero, List.set_cons_succ]
            obtain ⟨kv, hkv⟩ : ∃ k, k = wA.heap.size := ⟨_, rfl⟩
            have LK := Lib.hid (LB.out.below' ((Below.refl wA.heap.size wA).alloc (Nat.le_refl _) (.cells #[.int .i64 (sp l i).1.1, .int .i64 (sp l i).1.2.1, .int .i64 (sp l i).1.2.2.1, .int .i64 (sp l i).1.2.2.2] 84)))
            have VB := Lib.hid (Blk.new wA #[.int .i64 (sp l i).1.1, .int .i64 (sp l i).1.2.1, .int .i64 (sp l i).1.2.2.1, .int .i64 (sp l i).1.2.2.2] 84)
            refine till_one (i := 14) (by kernel_rfl) rfl (fun K hK => ?_)
            go_simp
            refine hK.out _ _ (fun h => absurd rfl h) ?_
            clear hK K
            try simp only [Act.put, List.setIfInBounds_toArray, List.set_cons_zero, List.set_cons_succ]
            refine till_done (by kernel_rfl) ?_ _
            rw [← hkv] at VB ⊢
            have HKV := Lib.hid hkv
            clear hkv BO LB
            generalize wA.alloc (.cells #[.int .i64 (sp l i).1.1, .int .i64 (sp l i).1.2.1, .int .i64 (sp l i).1.2.2.1, .int .i64 (sp l i).1.2.2.2] 84) = wK at *
            go_wp2_with fail
            have LE := Lib.hid (LK.out.below' (Below.refl _ _).drew)
            have VE := Lib.hid (show Blk wK.drew kv #[.int .i64 (sp l i).1.1, .int .i64 (sp l i).1.2.1, .int .i64 (sp l i).1.2.2.1, .int .i64 (sp l i).1.2.2.2] 84 from VB.out)
            refine till_start 11 (fun w' : World => w'.cell? ⟨mb, 2, none⟩ = some (.map (some Mb)) ∧ w'.cell? ⟨kv, 0, none⟩ = some (.int .i64 (sp l i).1.1) ∧ w'.cell? ⟨kv, 1, none⟩ = some (.int .i64 (sp l i).1.2.1) ∧ w'.cell? ⟨kv, 2, none⟩ = some (.int .i64 (sp l i).1.2.2.1) ∧
              w'.cell? ⟨kv, 3, none⟩ = some (.int .i64 (sp l i).1.2.2.2)) (by kernel_rfl) ?_
            generalize wK.drew = wE at *
            have BOF : ∀ W : World, Blk W mb #[.pointer (some ⟨hB, 0, none⟩), .slice (some ⟨g, 0, none⟩) l.length cc, .map (some Mb), .slice none 0 0] 77 → Blk W kv #[.int .i64 (sp l i).1.1, .int .i64 (sp l i).1.2.1, .int .i64 (sp l i).1.2.2.1, .int .i64 (sp l i).1.2.2.2] 84 →
                W.cell? ⟨mb, 2, none⟩ = some (.map (some Mb)) ∧ W.cell? ⟨kv, 0, none⟩ = some (.int .i64 (sp l i).1.1) ∧ W.cell? ⟨kv, 1, none⟩ = some (.int .i64 (sp l i).1.2.1) ∧ W.cell? ⟨kv, 2, none⟩ = some (.int .i64 (sp l i).1.2.2.1) ∧
              W.cell? ⟨kv, 3, none⟩ = some (.int .i64 (sp l i).1.2.2.2) := fun _ h1 h2 => ⟨h1.cell rfl, h2.cell rfl, h2.cell rfl, h2.cell rfl, h2.cell rfl⟩
            have BO := Lib.hid BOF
            have hHB := BOF _ LE.out.m VE.out
            clear BOF LK VB
            refine till_take (i := 0) (v := ?_) rfl (by kernel_rfl) (by kernel_rfl) (by kernel_rfl) (by kernel_rfl) (fun _ _ _ h => h) (Or.inl ⟨by rfl, ?_⟩) hHB ?_
            rotate_left
            · (intro w hSw; (try dsimp only at hSw); go_simp; try with_reducible rfl)
            try simp only [Act.put, List.setIfInBounds_toArray, List.set_cons_zero, List.set_cons_succ]
            refine till_take (i := 1) (v := ?_) rfl (by kernel_rfl) (by kernel_rfl) (by kernel_rfl) (by kernel_rfl) (fun _ _ _ h => h) (Or.inl ⟨by rfl, ?_⟩) hHB ?_
            rotate_left
            · (intro w hSw; (try dsimp only at hSw); go_simp; try with_reducible rfl)
            try simp only [Act.put, List.setIfInBounds_toArray, List.set_cons_zero, List.set_cons_succ]
            refine till_take (i := 2) (v := ?_) rfl (by kernel_rfl) (by kernel_rfl) (by kernel_rfl) (by kernel_rfl) (fun _ _ _ h => h) (Or.inl ⟨by rfl, ?_⟩) hHB ?_
            rotate_left
            · (intro w hSw; (try dsimp only at hSw); go_simp; try with_reducible rfl)
            try simp only [Act.put, List.setIfInBounds_toArray, List.set_cons_zero, List.set_cons_succ]
            refine till_take (i := 3) (v := ?_) rfl (by kernel_rfl) (by kernel_rfl) (by kernel_rfl) (by kernel_rfl) (fun _ _ _ h => h) (Or.inl ⟨by rfl, ?_⟩) hHB ?_
            rotate_left
            · (intro w hSw; (try dsimp only at hSw); go_simp; try with_reducible rfl)
            try simp only [Act.put, List.setIfInBounds_toArray, List.set_cons_zero, List.set_cons_succ]
            refine till_take (i := 4) (v := ?_) rfl (by kernel_rfl) (by kernel_rfl) (by kernel_rfl) (by kernel_rfl) (fun _ _ _ h => h) (Or.inl ⟨by rfl, ?_⟩) hHB ?_
            rotate_left
            · (intro w hSw; (try dsimp only at hSw); go_simp; try with_reducible rfl)
            try simp only [Act.put, List.setIfInBounds_toArray, List.set_cons_zero, List.set_cons_succ]
            refine till_take (i := 5) (v := ?_) rfl (by kernel_rfl) (by kernel_rfl) (by kernel_rfl) (by kernel_rfl) (fun _ _ _ h => h) (Or.inl ⟨by rfl, ?_⟩) hHB ?_
            rotate_left
            · (intro w hSw; (try dsimp only at hSw); go_simp; try with_reducible rfl)
            try simp only [Act.put, List.setIfInBounds_toArray, List.set_cons_zero, List.set_cons_succ]
            clear hHB
            refine till_one (i := 6) (by kernel_rfl) rfl (fun K hK => ?_)
            go_simp
            refine hK.out _ _ (fun _ => BO.out _ (LE.out.m.alloc _) (VE.out.alloc _)) ?_
            clear hK K
            try simp only [Act.put, List.setIfInBounds_toArray, List.set_cons_zero, List.set_cons_succ]
            have hwf := HWF.out i hfl
            have hki : IsI (sp l i).1.1 := by have := HV.out i hfl; unfold May at this; unfold IsI; omega
            obtain ⟨v, st, w5, hrun, hg5, hat, hst⟩ := by_entry (LE.out.by_.alloc (.cells #[.pointer (some ⟨cb i, 0, none⟩)] 78)) (d := (sp l i).1) hki hwf (by unfold maxLen; omega)
            refine till_one (i := 7) (by kernel_rfl) rfl (fun K hK => ?_)
            go_simp
            have hmM : mb ≠ Mb := fun e => map_ne LE.out.by_ LE.out.m e.symm
            have hvM : kv ≠ Mb := fun e => map_ne LE.out.by_ VE.out e.symm
            have M5 := Lib.hid ((LE.out.m.alloc (.cells #[.pointer (some ⟨cb i, 0, none⟩)] 78)).grown hg5 (by simpa using hmM))
            have V5 := Lib.hid ((VE.out.alloc (.cells #[.pointer (some ⟨cb i, 0, none⟩)] 78)).grown hg5 (by simpa using hvM))
            obtain ⟨v0, hat0, hro⟩ := LE.out.rows (sp l i).1 hki hwf
            rw [hat] at hat0
            obtain rfl : v = v0 := by injection hat0
            have hvb : ∀ x, v.ownBlock = some x → b2 ≤ x := fun x e => (hro.lt x e).1
            have hMb2 : Mb < b2 := by have := LE.out.bb; have := LE.out.bB; omega
            have hM5 : Mb < w5.heap.size := by have := hg5.size; simp at this; have := LE.out.big; omega
            have O5 := Lib.hid ((hro.alloc (.cells #[.pointer (some ⟨cb i, 0, none⟩)] 78)).kept hg5 (.inr fun e => by have := hvb Mb e; omega))
            have N5 := Lib.hid (show Blk w5 wE.heap.size #[.pointer (some ⟨cb i, 0, none⟩)] 78 from (Blk.new wE #[.pointer (some ⟨cb i, 0, none⟩)] 78).grown hg5 (by have := LE.out.big; simp; omega))
            have G5 := Lib.hid (grown_trans (grown_of_below ((Below.refl wE.heap.size wE).alloc (Nat.le_refl _) (.cells #[.pointer (some ⟨cb i, 0, none⟩)] 78)) (some Mb)) hg5)
            have hs5 : b2 ≤ w5.heap.size := by have := hg5.size; simp at this; have := LE.out.big; omega
            have AT := Lib.hid hat
            have ST := Lib.hid hst
            have hτl := tau_len l f p (sp l i).1
            refine hK.out _ _ (fun _ => BO.out _ M5.out V5.out) ?_
            clear hK K hrun hat hat0 hst hg5 hro
            try simp only [Act.put, List.setIfInBounds_toArray, List.set_cons_zero, List.set_cons_succ]
            have hHB := BO.out _ M5.out V5.out
            refine till_take (i := 8) (v := ?_) rfl (by kernel_rfl) (by kernel_rfl) (by kernel_rfl) (by kernel_rfl) (fun _ _ _ h => h) (Or.inl ⟨by rfl, ?_⟩) hHB ?_
            rotate_left
            · (intro w hSw; (try dsimp only at hSw); go_simp; try with_reducible rfl)
            try simp only [Act.put, List.setIfInBounds_toArray, List.set_cons_zero, List.set_cons_succ]
            refine till_take (i := 10) (v := ?_) rfl (by kernel_rfl) (by kernel_rfl) (by kernel_rfl) (by kernel_rfl) (fun _ _ _ h => h) (Or.inl ⟨by rfl, ?_⟩) hHB ?_
            rotate_left
            · (intro w hSw; (try dsimp only at hSw); go_simp; try with_reducible rfl)
            try simp only [Act.put, List.setIfInBounds_toArray, List.set_cons_zero, List.set_cons_succ]
            clear hHB
            refine till_one (i := 9) (by kernel_rfl) rfl (fun K hK => ?_)
            (refine step_append_lies _ (by rfl) _ _ _ (by rfl) b2 78 ii _ 1 8 Try.underlying75 hi hz0 hz1 hz2 rfl (by omega) v _ _ (by rfl) O5.out
                ⟨wE.heap.size, 0, none⟩ 1 1 [.pointer (some ⟨cb i, 0, none⟩)] (by rfl) (by rfl) (World.news_of_block (cs := #[.pointer (some ⟨cb i, 0, none⟩)]) (t := 78) (fr := (0, 0)) N5.out) (by simp [Value.oneCell'])
                (by omega) (by unfold maxLen; omega) (by omega) hs5 w5.heap.size rfl ?_; intro gg c6 w6 hown1 hgrow hgg hlt6)
            have M6 := Lib.hid (M5.out.grown hgrow (fun e => by have := hvb mb e.symm; have := LE.out.mB; have := LE.out.bb; omega))
            have V6 := Lib.hid (V5.out.grown hgrow (fun e => by
              obtain ⟨cs', t', h1, h2⟩ := own_cells O5.out _ e.symm
              exact blk_ne V5.out h1 (by rw [h2]; decide) rfl))
            refine hK.out _ _ (fun _ => BO.out _ M6.out V6.out) ?_
            clear hK K
            try simp only [Act.put, List.setIfInBounds_toArray, List.set_cons_zero, List.set_cons_succ]
            obtain ⟨w7, hrun, hg7, hm7⟩ := ST.out w6 (.slice (some ⟨gg, 0, none⟩) ((tau l (sig f p) (sp l i).1).length + 1) c6) (hgrow.block Mb hM5 (fun e => by have := hvb Mb e.symm; omega))
            have L7 := Lib.hid (show L2 l w mb hB hM Mb bas b2 (p + 1) (.slice (some ⟨g, 0, none⟩) l.length cc) cb f (D.put (kd (sp l i).1) (.held (.slice (some ⟨gg, 0, none⟩) ((tau l (sig f p) (sp l i).1).length + 1) c6))) w7 from by
              have h1 := AT.out
              rw [HFI.out] at hki hwf h1 hm7 hown1 ⊢
              exact LE.out.step hki hwf h1 G5.out hgrow hg7 rfl hgg hown1 hm7)
            have hrun7 : (Instr.entryStore 74 (.map (some Mb)) (.int .i64 st) (.slice (some ⟨gg, 0, none⟩) ((tau l (sig f p) (sp l i).1).length + 1) c6)).run Try.prog w6 = .ok () w7 := hrun
            clear hown1 hgrow hgg hlt6 hrun hg7 hm7
            refine till_one (i := 11) (by kernel_rfl) rfl (fun K hK => ?_)
            go_simp
            refine hK.out _ _ (fun h => absurd rfl h) ?_
            clear hK K hrun7
            try simp only [Act.put, List.setIfInBounds_toArray, List.set_cons_zero, List.set_cons_succ]
            refine till_done (by kernel_rfl) ?_ _
            clear BO M5 V5 M6 V6 O5 N5 G5 AT ST LE VE hwf hki hmM hvM hvb hMb2 hM5 hs5 hτl
            go_wp2_with fail
            go_roundw
            case rel => exact ⟨p + 1, _, by omega, by go_num, L7.out⟩
            case measure => simp [intOf]; omega
          · obtain rfl : p = l.length := by omega
            have m1 := LL.out.m.cell (i := 1) rfl
            simp at m1
            obtain ⟨σ, hσ⟩ : ∃ σ, σ = sig f l.length := ⟨_, rfl⟩
            have SP := Lib.hid (show σ.Pairwise (before l) from by rw [hσ]; exact sig_row SR.out)
            have SM := Lib.hid (show ∀ i, i ∈ σ ↔ i < l.length from by rw [hσ]; exact sig_mem AL.out)
            have SN := Lib.hid (sig_nodup SP.out)
            have hσl : σ.length = l.length := by rw [hσ, sig_len]
            have hlb := LL.out.below.size
            have LP := Lib.hid (show Lp l w wr mb hB hM Mb cb σ ca cc D 0 0 [] [] (.slice none 0 0) wr from
              ⟨by rw [hσ]; exact LL.out.pl, by rw [hσ]; exact ptrRow_of LL.out.own (sig_len _ _), LL.out.below, by simp, by simp, by simp, rfl, LL.out.H0, LL.out.m0, fun i hi => by have := (LL.out.cB i hi).1; have := LL.out.mB; have := LL.out.m0; omega, hlb⟩)
            have HSL := Lib.hid hσl
            clear hσ hσl AL SR
            go_wp2_with fail
            clear m1 LL hlb
            generalize hW : wr = W
            rw [hW] at LP
            clear hW
            go_loopw [88] (fun iv wr => ∃ (p nn : Nat) (out : List Nat) (S : List Ob) (ov : Value), p ≤ l.length ∧ iv = .int .i64 p ∧ Lp l w W mb hB hM Mb cb σ ca cc D p nn out S ov wr) (fun iv _ => l.length - (intOf iv).toNat)
            case atStart => exact ⟨0, 0, _, _, _, Nat.zero_le _, rfl, LP.out⟩
            case round =>
              clear LP
              obtain ⟨p, nn, out, S, ov, hpl, rfl, hL⟩ := hrel
              have LL := Lib.hid hL
              clear hL
              by_cases hlt : p < l.length
              · obtain ⟨c, hc⟩ : ∃ c, σ[p]? = some c := ⟨_, List.getElem?_eq_getElem (by rw [HSL.out]; exact hlt)⟩
                obtain ⟨g, cs, rfl, hgW, hgb, hcs⟩ := LL.out.row (by intro e; rw [e] at hc; simp at hc)
                have ge : wr.cell? ⟨g, p, none⟩ = some (.pointer (some ⟨cb c, 0, none⟩)) := (show Blk wr g cs 78 from hgb).cell (hcs p c hc)
                have hcl : c < l.length := (SM.out c).1 (List.mem_of_getElem? hc)
                have e5 : wr.cell? ⟨cb c, 5, none⟩ = some (.int .i64 (sp l c).2.2) := (LL.out.pl.c c hcl).cell (i := 5) rfl
                have HC := Lib.hid hc
                have i1 : (0 : Int) ≤ (p : Int) := by omega
                have i2 : (p : Int) < (l.length : Int) := by omega
                clear hc hcs hgb hgW
                obtain ⟨t, ht⟩ : ∃ t, t = (sp l c).2.2 := ⟨_, rfl⟩
                rw [← ht] at e5
                have HT := Lib.hid ht
                clear ht
                by_cases ht0 : t < 0
                · have HE := Lib.hid (show lineT l = some out by
                    have h1 := LL.out.fin
                    have h2 := LL.out.len
                    rw [show l.length + 1 - out.length = (l.length - out.length) + 1 by omega, lineF_end (urg_end SP.out SM.out LL.out.pre (fun x hx => by
                      rw [HC.out] at hx
                      obtain rfl : c = x := by simpa using hx
                      rw [← HT.out]; exact ht0))] at h1
                    exact h1.symm)
                  have m3 := LL.out.pl.m.cell (i := 3) rfl
                  simp at m3
                  go_wp2_with fail
                  go_ret2
                  exact lineIs_mk (lineE_yes H0.out HE.out).1 (lineE_yes H0.out HE.out).2 (owns_mono LL.out.pl.own LL.out.wW) LL.out.below
                · have ht0' : decide (t < 0) = false := by simpa using ht0
                  have ht1 : 0 ≤ t := by omega
                  clear ht0
                  go_wp2_with fail
                  clear ge e5 ht0'
                  go_loopg [] (l.length + 1 - out.length) (fun gh wr => ∃ (nn : Nat) (out : List Nat) (S : List Ob) (ov : Value), gh = l.length + 1 - out.length ∧ Lp l w W mb hB hM Mb cb σ (some ⟨g, 0, none⟩) cc D p nn out S ov wr)
                  case atStart => exact ⟨nn, out, S, ov, rfl, LL.out⟩
                  case round =>
                    clear LL
                    obtain ⟨nn, out, S, ov, hgk, hL⟩ := hrel
                    have LL := Lib.hid hL
                    have GK := Lib.hid hgk
                    have e7 : wr.cell? ⟨cb c, 7, none⟩ = some (.bool (decide (c ∈ out))) := (LL.out.pl.c c hcl).cell (i := 7) rfl
                    clear hL hgk
                    by_cases hco : c ∈ out
                    · have LN := Lib.hid (LL.out.next HC.out hco)
                      rw [decide_eq_true hco] at e7
                      clear hco
                      go_wp2_with fail
                      go_roundw
                      case rel => exact ⟨p + 1, nn, out, S, ov, by omega, by go_num, LN.out⟩
                      case measure => simp [intOf]; omega
                    · rw [decide_eq_false hco] at e7
                      have HCO := Lib.hid hco
                      clear hco
                      have HU := Lib.hid (urg_first SP.out SM.out LL.out.pre HC.out HCO.out (by rw [← HT.out]; exact ht1))
                      go_upto_region 23 with fail
                      go_cut [131] (fun s131 wx => s131 = .bool (blocked S (sp l c)) ∧ Lp l w W mb hB hM Mb cb σ (some ⟨g, 0, none⟩) cc D p nn out S ov wx)
                      case first =>
                        obtain ⟨⟨⟨kc, oc⟩, fc, tc⟩, hx⟩ : ∃ y, y = sp l c := ⟨_, rfl⟩
                        have m0 : wr.cell? ⟨mb, 0, none⟩ = some (.pointer (some ⟨hB, 0, none⟩)) := LL.out.pl.m.cell (i := 0) rfl
                        have d0 : wr.cell? ⟨cb c, 0, none⟩ = some (.int .i64 (sp l c).1.1) := (LL.out.pl.c c hcl).cell (i := 0) rfl
                        have d1 : wr.cell? ⟨cb c, 1, none⟩ = some (.int .i64 (sp l c).1.2.1) := (LL.out.pl.c c hcl).cell (i := 1) rfl
                        have d2 : wr.cell? ⟨cb c, 2, none⟩ = some (.int .i64 (sp l c).1.2.2.1) := (LL.out.pl.c c hcl).cell (i := 2) rfl
                        have d3 : wr.cell? ⟨cb c, 3, none⟩ = some (.int .i64 (sp l c).1.2.2.2) := (LL.out.pl.c c hcl).cell (i := 3) rfl
                        have hwf := HWF.out c hcl
                        rw [← hx] at d0 d1 d2 d3 hwf
                        dsimp only at d0 d1 d2 d3 hwf
                        have HX := Lib.hid hx
                        clear hx
                        have k0 := fun d os => cell_regrown m0 d os
                        have k1 := fun d os => cell_regrown d0 d os
                        have k2 := fun d os => cell_regrown d1 d os
                        have k3 := fun d os => cell_regrown d2 d os
                        have k4 := fun d os => cell_regrown d3 d os
                        have hhas := fun W' (hb : Below wr.heap.size wr W') => has_any hB hM nn S oc W' (LL.out.pl.h.below hb) hwf
                        obtain ⟨isb, hisb⟩ : ∃ isb, isb = decide (oc ∈ S) := ⟨_, rfl⟩
                        rw [← hisb] at hhas
                        have HBL := Lib.hid (show blocked S (sp l c) = (decide (kc ≠ 2) && decide (isb ≠ decide (kc = 3))) by rw [← HX.out, hisb]; rfl)
                        clear hisb hwf
                        by_cases h2 : kc = 2
                        · have e2 : (kc != 2) = false := by simpa using h2
                          have HB := Lib.hid (show blocked S (sp l c) = false by rw [HBL.out]; simp [h2])
                          clear h2 HBL hhas k0 k1 k2 k3 k4
                          go_wp2_with fail
                          go_quiet (fail)
                          have LN := Lib.hid (LL.out.below' (below_drewN (Below.refl _ _) nq))
                          go_wp2_with fail
                          go_meet
                          exact ⟨congrArg Value.bool HB.out.symm, LN.out⟩
                        · have e2 : (kc != 2) = true := by simpa using h2
                          by_cases h3 : kc = 3
                          · have e3 : (kc == 3) = true := by simpa using h3
                            have HB := Lib.hid (show blocked S (sp l c) = !isb by rw [HBL.out]; simp [h3])
                            clear h2 h3 HBL
                            cases isb
                            all_goals
                              go_wp2_with fail
                              refine wp_region_quiet_below (by kernel_rfl) (by kernel_rfl) ?_
                              repeat (quiet_step (first | ((go_at_call 24; exact Calls.regrown_of (hhas _ (below_regrown wr _ _))))))
                              refine wpQuiet_nil ?_
                              intro _ hw'
                              obtain ⟨⟨dq, osq⟩, hw''⟩ := hw'
                              subst hw''
                              have hbq : Below wr.heap.size wr (Go.Sort.grow (redrawn wr dq) osq) := below_regrown wr dq osq
                              dsimp only
                              generalize Go.Sort.grow (redrawn wr dq) osq = wq at hbq ⊢
                              have LN := Lib.hid (LL.out.below' hbq)
                              clear k0 k1 k2 k3 k4 hhas hbq m0 d0 d1 d2 d3 e7
                              go_wp2_with fail
                              go_meet
                              exact ⟨congrArg Value.bool HB.out.symm, LN.out⟩
                          · have e3 : (kc == 3) = false := by simpa using h3
                            have HB := Lib.hid (show blocked S (sp l c) = isb by rw [HBL.out]; simp [h2, h3])
                            clear h2 h3 HBL
                            cases isb
                            all_goals
                              go_wp2_with fail
                              refine wp_region_quiet_below (by kernel_rfl) (by kernel_rfl) ?_
                              repeat (quiet_step (first | ((go_at_call 24; exact Calls.regrown_of (hhas _ (below_regrown wr _ _))))))
                              refine wpQuiet_nil ?_
                              intro _ hw'
                              obtain ⟨⟨dq, osq⟩, hw''⟩ := hw'
                              subst hw''
                              have hbq : Below wr.heap.size wr (Go.Sort.grow (redrawn wr dq) osq) := below_regrown wr dq osq
                              dsimp only
                              generalize Go.Sort.grow (redrawn wr dq) osq = wq at hbq ⊢
                              have LN := Lib.hid (LL.out.below' hbq)
                              clear k0 k1 k2 k3 k4 hhas hbq m0 d0 d1 d2 d3 e7
                              go_wp2_with fail
                              go_meet
                              exact ⟨congrArg Value.bool HB.out.symm, LN.out⟩
                      case rest =>
                        obtain ⟨rfl, hL⟩ := hcut
                        have LH := Lib.hid hL
                        clear hL e7 LL
                        obtain ⟨bk, hbk⟩ : ∃ bk, bk = blocked S (sp l c) := ⟨_, rfl⟩
                        rw [← hbk]
                        have HBK := Lib.hid hbk
                        clear hbk
                        go_upto_if 131 with fail
                        go_cut [13] (fun s13 wx => ∃ ob, s13 = optP cb ob ∧ base l out S c = ob ∧ Lp l w W mb hB hM Mb cb σ (some ⟨g, 0, none⟩) cc D p nn out S ov wx)
                        case first =>
                          cases bk with
                          | false =>
                            have HB := Lib.hid (show base l out S c = some c by unfold base; rw [← HBK.out]; rfl)
                            go_wp2_with fail
                            go_meet
                            exact ⟨some c, rfl, HB.out, LH.out⟩
                          | true =>
                            have HB := Lib.hid (show base l out S c = σ.find? (hlpP l out c (hlpK S (sp l c))) by unfold base; rw [← HBK.out, if_pos rfl]; unfold hlp; exact least_find SP.out SM.out _)
                            go_wp2_with fail
                            refine (helps_any l W mb hB hM Mb cb σ _ D nn out S ov _ c hcl (fun i hi => (SM.out i).1 hi) (by rw [HSL.out]; exact hl256) (HWF.out c hcl) LH.out.pl).mono ?_
                            rintro e w5 ⟨rfl, hb⟩
                            have LN := Lib.hid (LH.out.below' hb)
                            clear hb
                            go_wp2_with fail
                            go_meet
                            exact ⟨_, rfl, HB.out, LN.out⟩
                        case rest =>
                          obtain ⟨ob, rfl, hbs, hL⟩ := hcut
                          have L6 := Lib.hid hL
                          clear hL LH HBK
                          cases ob with
                          | none =>
                            have HN := Lib.hid (show lineT l = none by
                              have h1 := L6.out.fin
                              have h2 := L6.out.len
                              rw [show l.length + 1 - out.length = (l.length - out.length) + 1 by omega, lineF_stop HU.out (bad_iff0 hbs)] at h1
                              exact h1.symm)
                            rw [show optP cb none = .pointer none from rfl]
                            clear hbs
                            go_wp2_with fail
                            go_ret2
                            exact lineIs_mk (lineE_no H0.out HN.out).1 (lineE_no H0.out HN.out).2 (World.ownsRow_nil _ _ _ _) L6.out.below
                          | some x =>
                            have hxl := base_lt hbs hcl
                            have BS := Lib.hid hbs
                            clear hbs
                            rw [show optP cb (some x) = .pointer (some ⟨cb x, 0, none⟩) from rfl]
                            have d0 : wc.cell? ⟨cb x, 0, none⟩ = some (.int .i64 (sp l x).1.1) := (L6.out.pl.c x hxl).cell (i := 0) rfl
                            obtain ⟨q1, hq1⟩ : ∃ q1, q1 = decide ((sp l x).1.1 = 1) := ⟨_, rfl⟩
                            have e1 : ((sp l x).1.1 == 1) = q1 := by rw [hq1]; rfl
                            have Q1 := Lib.hid hq1
                            clear hq1
                            go_upto_if 143 with fail
                            clear d0 e1
                            go_cut [] (fun wx => ∃ (out' : List Nat) (ov' : Value), out.length ≤ out'.length ∧ urg l out' = some c ∧ pick l out' S c = some x ∧ Lp l w W mb hB hM Mb cb σ (some ⟨g, 0, none⟩) cc D p nn out' S ov' wx)
                            case first =>
                              cases q1 with
                              | false =>
                                have HP := Lib.hid (bad_iff1 BS.out (by simpa using Q1.out.symm))
                                go_wp2_with fail
                                go_meet
                                exact ⟨out, ov, Nat.le_refl _, HU.out, HP.out, L6.out⟩
                              | true =>
                                have HX1 := Lib.hid (show (sp l x).1.1 = 1 by simpa using Q1.out.symm)
                                go_wp2_with fail
                                refine (bads_any l W mb hB hM Mb cb σ _ D nn out S ov _ c hcl (fun i hi => (SM.out i).1 hi) SN.out (by rw [HSL.out]; exact hl256) (by have := L6.out.len; omega) (HWF.out c hcl) L6.out.pl).mono ?_
                                rintro e w7 ⟨rfl, ov', hP, hK⟩
                                have LN := Lib.hid (L6.out.bads SP.out SM.out SN.out HX1.out (base_ne4 BS.out HX1.out) HU.out BS.out hP hK)
                                clear hP hK
                                go_wp2_with fail
                                go_meet
                                exact ⟨_, ov', by simp, LN.out.2.1, LN.out.2.2, LN.out.1⟩
                            case rest =>
                              obtain ⟨out', ov', hol, hu, hp, hL⟩ := hcut
                              have hps := pick_some HV.out hcl (urg_some hu).2.1 hp
                              have L7 := Lib.hid (Lp.below' hL (Below.refl _ _).drew)
                              have U7 := Lib.hid hu
                              have P7 := Lib.hid hp
                              have X7 := Lib.hid hps.2.1
                              have hlen := hL.len
                              have hnn := hL.pl.hn
                              clear hL hu hp hps L6 Q1 BS HU HCO
                              go_wp2_with fail
                              refine till_start 9 (fun w' : World => w'.cell? ⟨mb, 0, none⟩ = some (.pointer (some ⟨hB, 0, none⟩)) ∧ w'.cell? ⟨cb x, 0, none⟩ = some (.int .i64 (sp l x).1.1) ∧ w'.cell? ⟨cb x, 1, none⟩ = some (.int .i64 (sp l x).1.2.1) ∧ w'.cell? ⟨cb x, 2, none⟩ = some (.int .i64 (sp l x).1.2.2.1) ∧
                                w'.cell? ⟨cb x, 3, none⟩ = some (.int .i64 (sp l x).1.2.2.2)) (by kernel_rfl) ?_
                              generalize World.drew _ = wA at *
                              have hHB : wA.cell? ⟨mb, 0, none⟩ = some (.pointer (some ⟨hB, 0, none⟩)) ∧ wA.cell? ⟨cb x, 0, none⟩ = some (.int .i64 (sp l x).1.1) ∧ wA.cell? ⟨cb x, 1, none⟩ = some (.int .i64 (sp l x).1.2.1) ∧ wA.cell? ⟨cb x, 2, none⟩ = some (.int .i64 (sp l x).1.2.2.1) ∧
                                wA.cell? ⟨cb x, 3, none⟩ = some (.int .i64 (sp l x).1.2.2.2) := ⟨L7.out.pl.m.cell rfl, (L7.out.pl.c x hxl).cell rfl, (L7.out.pl.c x hxl).cell rfl, (L7.out.pl.c x hxl).cell rfl, (L7.out.pl.c x hxl).cell rfl⟩
                              refine till_take (i := 0) (v := ?_) rfl (by kernel_rfl) (by kernel_rfl) (by kernel_rfl) (by kernel_rfl) (fun _ _ _ h => h) (Or.inl ⟨by rfl, ?_⟩) hHB ?_
                              rotate_left
                              · (intro w hSw; (try dsimp only at hSw); go_simp; try with_reducible rfl)
                              try simp only [Act.put, List.setIfInBounds_toArray, List.set_cons_zero, List.set_cons_succ]
                              refine till_take (i := 1) (v := ?_) rfl (by kernel_rfl) (by kernel_rfl) (by kernel_rfl) (by kernel_rfl) (fun _ _ _ h => h) (Or.inl ⟨by rfl, ?_⟩) hHB ?_
                              rotate_left
                              · (intro w hSw; (try dsimp only at hSw); go_simp; try with_reducible rfl)
                              try simp only [Act.put, List.setIfInBounds_toArray, List.set_cons_zero, List.set_cons_succ]
                              refine till_take (i := 2) (v := ?_) rfl (by kernel_rfl) (by kernel_rfl) (by kernel_rfl) (by kernel_rfl) (fun _ _ _ h => h) (Or.inl ⟨by rfl, ?_⟩) hHB ?_
                              rotate_left
                              · (intro w hSw; (try dsimp only at hSw); go_simp; try with_reducible rfl)
                              try simp only [Act.put, List.setIfInBounds_toArray, List.set_cons_zero, List.set_cons_succ]
                              refine till_take (i := 3) (v := ?_) rfl (by kernel_rfl) (by kernel_rfl) (by kernel_rfl) (by kernel_rfl) (fun _ _ _ h => h) (Or.inl ⟨by rfl, ?_⟩) hHB ?_
                              rotate_left
                              · (intro w hSw; (try dsimp only at hSw); go_simp; try with_reducible rfl)
                              try simp only [Act.put, List.setIfInBounds_toArray, List.set_cons_zero, List.set_cons_succ]
                              refine till_take (i := 4) (v := ?_) rfl (by kernel_rfl) (by kernel_rfl) (by kernel_rfl) (by kernel_rfl) (fun _ _ _ h => h) (Or.inl ⟨by rfl, ?_⟩) hHB ?_
                              rotate_left
                              · (intro w hSw; (try dsimp only at hSw); go_simp; try with_reducible rfl)
                              try simp only [Act.put, List.setIfInBounds_toArray, List.set_cons_zero, List.set_cons_succ]
                              refine till_take (i := 5) (v := ?_) rfl (by kernel_rfl) (by kernel_rfl) (by kernel_rfl) (by kernel_rfl) (fun _ _ _ h => h) (Or.inl ⟨by rfl, ?_⟩) hHB ?_
                              rotate_left
                              · (intro w hSw; (try dsimp only at hSw); go_simp; try with_reducible rfl)
                              try simp only [Act.put, List.setIfInBounds_toArray, List.set_cons_zero, List.set_cons_succ]
                              refine till_take (i := 6) (v := ?_) rfl (by kernel_rfl) (by kernel_rfl) (by kernel_rfl) (by kernel_rfl) (fun _ _ _ h => h) (Or.inl ⟨by rfl, ?_⟩) hHB ?_
                              rotate_left
                              · (intro w hSw; (try dsimp only at hSw); go_simp; try with_reducible rfl)
                              try simp only [Act.put, List.setIfInBounds_toArray, List.set_cons_zero, List.set_cons_succ]
                              refine till_take (i := 7) (v := ?_) rfl (by kernel_rfl) (by kernel_rfl) (by kernel_rfl) (by kernel_rfl) (fun _ _ _ h => h) (Or.inl ⟨by rfl, ?_⟩) hHB ?_
                              rotate_left
                              · (intro w hSw; (try dsimp only at hSw); go_simp; try with_reducible rfl)
                              try simp only [Act.put, List.setIfInBounds_toArray, List.set_cons_zero, List.set_cons_succ]
                              refine till_take (i := 8) (v := ?_) rfl (by kernel_rfl) (by kernel_rfl) (by kernel_rfl) (by kernel_rfl) (fun _ _ _ h => h) (Or.inl ⟨by rfl, ?_⟩) hHB ?_
                              rotate_left
                              · (intro w hSw; (try dsimp only at hSw); go_simp; try with_reducible rfl)
                              try simp only [Act.put, List.setIfInBounds_toArray, List.set_cons_zero, List.set_cons_succ]
                              clear hHB
                              refine till_one (i := 9) (by kernel_rfl) rfl (fun K hK => ?_)
                              go_simp
                              refine (do_any hB hM nn S (sp l x).1 wA L7.out.pl.h (HWF.out x hxl) (by unfold maxLen; omega)).mono ?_
                              rintro e w8 ⟨rfl, hH8, hg8⟩
                              have H8 := Lib.hid hH8
                              have G8 := Lib.hid hg8
                              have D8 := Lib.hid (L7.out.pl.did hH8 hg8)
                              have hs8 : W.heap.size ≤ w8.heap.size := Nat.le_trans L7.out.pl.big hg8.size
                              have hne : mb ≠ cb x := fun e => blk_ne L7.out.pl.m (L7.out.pl.c x hxl) (by decide) e
                              clear hH8 hg8
                              try go_wp2_with fail
                              refine hK.out _ _ (fun h => absurd rfl h) ?_
                              clear hK K
                              try simp only [Act.put, List.setIfInBounds_toArray, List.set_cons_zero, List.set_cons_succ]
                              refine till_done (by kernel_rfl) ?_ _
                              go_wp2_with fail
                              refine (next_any mb (cb x) W.heap.size (.pointer (some ⟨hB, 0, none⟩)) _ (.map (some Mb)) ov' (sp l x) x _ _ _ w8 D8.out.1 (D8.out.2.1 x hxl) D8.out.2.2.2.2 (by omega) hne L7.out.pl.mW (L7.out.pl.cW x hxl) hs8).mono ?_
                              rintro e w9 ⟨rfl, v, a1, a2, a3, a4⟩
                              have LN := Lib.hid (L7.out.step U7.out P7.out hxl X7.out H8.out G8.out a1 a2 a3 a4)
                              clear a1 a2 a3 a4 D8 H8 G8 L7 U7 P7 X7
                              have hlen2 := LN.out.len
                              rw [List.length_append, List.length_singleton] at hlen2
                              go_wp2_with fail
                              go_roundg (l.length + 1 - (out'.length + 1))
                              case rel => exact ⟨nn + 1, out' ++ [x], _, v, by simp, LN.out⟩
                              case measure => have := GK.out; omega
              · obtain rfl : p = l.length := by omega
                have HE := Lib.hid (show lineT l = some out by
                  have h1 := LL.out.fin
                  have h2 := LL.out.len
                  rw [show l.length + 1 - out.length = (l.length - out.length) + 1 by omega, lineF_end (urg_end SP.out SM.out LL.out.pre (fun x hx => by
                    have := (List.getElem?_eq_some_iff.1 hx).1
                    rw [HSL.out] at this; omega))] at h1
                  exact h1.symm)
                have m3 := LL.out.pl.m.cell (i := 3) rfl
                simp at m3
                go_wp2_with fail
                go_ret2
                exact lineIs_mk (lineE_yes H0.out HE.out).1 (lineE_yes H0.out HE.out).2 (owns_mono LL.out.pl.own LL.out.wW) LL.out.below
  · have HE := Lib.hid (lineE_bad h0)
    have hne : (chk l != 0) = true := by simpa using h0
    clear h0
    generalize chk l = c at *
    go_enter Try.func26, Try.ntmps26
    go_wp2_with fail
    refine hck.mono ?_
    rintro e w1 ⟨rfl, hb⟩
    go_wp2_with fail
    go_ret2
    exact lineIs_mk HE.out.1 HE.out.2 (World.ownsRow_nil _ _ _ _) hb
end Go.Proofs.Ythmkmjoeceghiaa
