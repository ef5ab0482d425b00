/- TreeKnown. -/
import Derived.Test.YtkkjnnmjfamkjaaR
import Derived.Test.YtkkjnnmjfamkjaaP
namespace Go.Proofs.Ytkkjnnmjfamkjaa
open Go.RowKit Go.Shelf

attribute [local go_sem ↓] Go.wp_at_zero Go.wp_at_succ
theorem info29 : (Try.prog.info? 29).map (fun i => (i.zero, i.size, i.bytes)) = some (some (.agg #[.int .i64 0, .int .i64 0]), 2, 16) := by kernel_rfl
theorem flat_dw (l : List Dw) : ∀ (k : Nat) (c : Dw), l[k]? = some c → ∀ j, j < 2 → (l.flatMap dwCells)[k * 2 + j]? = (dwCells c)[j]? := by
  induction l with
  | nil => intro k c h; simp at h
  | cons x l ih =>
    intro k c h j hj
    have hx : (dwCells x).length = 2 := rfl
    rw [List.flatMap_cons]
    cases k with
    | zero =>
      obtain rfl : x = c := by simpa using h
      rw [Nat.zero_mul, Nat.zero_add, List.getElem?_append_left (by omega)]
    | succ k =>
      rw [List.getElem?_append_right (by omega), hx, show (k + 1) * 2 + j - 2 = k * 2 + j by omega]
      exact ih k c (by simpa using h) j hj
theorem dw_len (l : List Dw) : (l.flatMap dwCells).length = l.length * 2 := by
  induction l with
  | nil => rfl
  | cons x l ih => rw [List.flatMap_cons, List.length_append, ih]; simp [dwCells]; omega
theorem dw_one (l : List Dw) : ∀ u ∈ l.flatMap dwCells, u.oneCell' = true := fun u hu => by
  simp only [List.mem_flatMap] at hu
  obtain ⟨c, _, hc⟩ := hu
  simp only [dwCells, List.mem_cons, List.not_mem_nil, or_false] at hc
  rcases hc with rfl | rfl <;> rfl
theorem dos_own {w : World} {base n cap : Nat} {a : Option Addr} {l : List Dw} (h : w.ownsRow base 29 2 (.slice a n cap) n (l.flatMap dwCells)) (hl : l.length = n) : IsDos w a l := fun hne => by
  have hn : 0 < n := by rw [← hl]; exact List.length_pos_iff.2 hne
  obtain ⟨q, c, hv, _, _⟩ := h.form hn
  obtain rfl : a = some ⟨q, 0, none⟩ := by injection hv
  refine ⟨q, 0, rfl, fun k c hk => ?_⟩
  have hkl : k < n := by have := (List.getElem?_eq_some_iff.1 hk).1; omega
  refine ⟨?_, ?_⟩
  · have := h.cellAt (k * 2) (by omega)
    rw [Nat.zero_add, this, ← Nat.add_zero (k * 2), flat_dw l k c hk 0 (by omega)]; rfl
  · have := h.cellAt (k * 2 + 1) (by omega)
    rw [Nat.zero_add, this, flat_dw l k c hk 1 (by omega)]; rfl
def deepL (k : Nat) : List Dw := (List.range k).map fun (i : Nat) => ((0 : Int), (i : Int))
def wideL (k : Nat) : List Dw := (List.range k).map fun _ => ((0 : Int), (1 : Int))
def tailL : List Dw := [(1, 4), (1, 4), (1, 8), (1, 7), (0, 7), (0, 4), (0, 5), (1, 0), (1, 1), (1, 17), (1, -1)]
theorem deep_succ (k : Nat) : deepL (k + 1) = deepL k ++ [(0, (k : Int))] := by simp [deepL, List.range_succ]
theorem wide_succ (k : Nat) : wideL (k + 1) = wideL k ++ [(0, 1)] := by simp [wideL, List.range_succ]
theorem deep_len (k : Nat) : (deepL k).length = k := by simp [deepL]
theorem wide_len (k : Nat) : (wideL k).length = k := by simp [wideL]
theorem apart_kept {dv wv : Value} (h : ∀ g, dv.ownBlock = some g → wv.ownBlock ≠ some g) : wv.ownBlock = none ∨ wv.ownBlock ≠ dv.ownBlock := by
  cases hw : wv.ownBlock with
  | none => exact .inl rfl
  | some g => exact .inr fun e => h g e.symm hw
theorem apart_kept2 {dv wv : Value} (h : ∀ g, dv.ownBlock = some g → wv.ownBlock ≠ some g) : dv.ownBlock = none ∨ dv.ownBlock ≠ wv.ownBlock := by
  cases hd : dv.ownBlock with
  | none => exact .inl rfl
  | some g => exact .inr fun e => h g hd e.symm
theorem apart_lies {dv wv : Value} {g1 n c N : Nat} (h : ∀ g, dv.ownBlock = some g → wv.ownBlock ≠ some g) (hlt : ∀ g, wv.ownBlock = some g → g < N) (hat : dv.ownBlock = some g1 ∨ g1 = N + 1) : ∀ g, (Value.slice (some ⟨g1, 0, none⟩) n c).ownBlock = some g → wv.ownBlock ≠ some g := fun g hg => by
  obtain rfl : g1 = g := by simpa [Value.ownBlock] using hg
  rcases hat with h1 | h1
  · exact h _ h1
  · intro e; have := hlt _ e; omega
theorem apart_lies2 {dv wv : Value} {g1 n c N : Nat} (h : ∀ g, dv.ownBlock = some g → wv.ownBlock ≠ some g) (hlt : ∀ g, dv.ownBlock = some g → g < N) (hat : wv.ownBlock = some g1 ∨ g1 = N + 1) : ∀ g, dv.ownBlock = some g → (Value.slice (some ⟨g1, 0, none⟩) n c).ownBlock ≠ some g := fun g hg e => by
  obtain rfl : g1 = g := by simpa [Value.ownBlock] using e
  rcases hat with h1 | h1
  · exact h _ hg h1
  · have := hlt _ hg; omega
theorem plays_at (l : List Dw) (a : Option Addr) (n cap : Nat) (w : World) (hI : IsDos w a l) (hl : l.length = n) (hlen : n ≤ 9223372036854775807) (hwf : ∀ d ∈ l, IsI d.2) :
    Calls Try.prog 3 #[.slice a n cap] w fun e w' => e = .returned (.bool true) ∧ Below w.heap.size w w' := by subst hl; exact plays_any l a cap w hI hlen hwf
theorem paths_at (l : List Dw) (a : Option Addr) (n cap : Nat) (w : World) (hI : IsDos w a l) (hl : l.length = n) (hlen : n ≤ 9223372036854775807) :
    Calls Try.prog 4 #[.slice a n cap] w fun e w' => e = .returned (.bool true) ∧ Below w.heap.size w w' := by subst hl; exact paths_any l a cap w hI hlen
theorem heirs_at (l : List Dw) (a : Option Addr) (n cap : Nat) (w : World) (hI : IsDos w a l) (hl : l.length = n) (hlen : n ≤ 9223372036854775807) :
    Calls Try.prog 5 #[.slice a n cap] w fun e w' => e = .returned (.bool true) ∧ Below w.heap.size w w' := by subst hl; exact heirs_any l a cap w hI hlen
theorem deep_is : ∀ d ∈ deepL 20, IsI d.2 := fun d hd => by
  simp only [deepL, List.mem_map, List.mem_range] at hd
  obtain ⟨i, hi, rfl⟩ := hd
  show -9223372036854775808 ≤ (i : Int) ∧ (i : Int) ≤ 9223372036854775807
  omega
theorem wide_is : ∀ d ∈ wideL 20, IsI d.2 := fun d hd => by
  simp only [wideL, List.mem_map, List.mem_range] at hd
  obtain ⟨i, hi, rfl⟩ := hd
  exact ⟨by simp, by simp⟩
theorem more_is : ∀ d ∈ deepL 20 ++ tailL, IsI d.2 := fun d hd => by
  rcases List.mem_append.1 hd with h | h
  · exact deep_is d h
  · simp only [tailL, List.mem_cons, List.not_mem_nil, or_false] at h
    unfold IsI
    rcases h with rfl | rfl | rfl | rfl | rfl | rfl | rfl | rfl | rfl | rfl | rfl <;> exact ⟨by simp, by simp⟩
set_option maxRecDepth 100000 in
set_option maxHeartbeats 2000000 in
theorem known_any (w : World) : Calls Try.prog 7 #[] w fun e w' => e = .returned (.bool true) ∧ Below w.heap.size w w' := by
  obtain ⟨i0, hi, hz0, hz1, hz2⟩ := info_parts info29
  go_enter Try.func7, Try.ntmps7
  go_wp2_with fail
  go_loopw [1, 2] (fun pv iv wr => ∃ (q : Option Addr) (k : Nat), k ≤ 2 ∧ pv = .pointer q ∧ iv = .int .i64 k ∧ NilT wr q ∧ Below w.heap.size w wr) (fun _ iv _ => 2 - (intOf iv).toNat)
  case atStart => exact ⟨none, 0, by omega, rfl, rfl, .inl rfl, Below.refl _ _⟩
  case round =>
    obtain ⟨q, k, hk, rfl, rfl, hq, hB⟩ := hrel
    have NN := Lib.hid hq
    have BB := Lib.hid hB
    clear hq hB
    by_cases hlt : k < 2
    · go_wp2_with fail
      refine (add_nil _ _ _ NN.out).mono ?_
      rintro e wz ⟨rfl, rfl⟩
      go_wp2_with fail
      refine (off_nil _ _ _ NN.out).mono ?_
      rintro e wz ⟨rfl, rfl⟩
      go_wp2_with fail
      refine (parent_nil _ _ _ NN.out).mono ?_
      rintro e wz ⟨rfl, rfl⟩
      go_wp2_with fail
      refine (depth_nil _ _ _ NN.out).mono ?_
      rintro e wz ⟨rfl, rfl⟩
      go_wp2_with fail
      refine (heir_nil _ _ _ NN.out).mono ?_
      rintro e wz ⟨rfl, hb⟩
      replace NN := Lib.hid (NN.out.below hb)
      replace BB := Lib.hid (on BB.out hb)
      clear hb
      go_wp2_with fail
      refine (many_nil _ _ NN.out).mono ?_
      rintro e wz ⟨rfl, rfl⟩
      go_wp2_with fail
      refine (path_nil _ _ _ NN.out).mono ?_
      rintro e wz ⟨v, rfl, hv, hb⟩
      obtain ⟨av, cv, rfl, -, -⟩ := owns_form hv
      replace NN := Lib.hid (NN.out.below hb)
      replace BB := Lib.hid (on BB.out hb)
      clear hv hb
      go_wp2_with fail
      refine (online_nil _ _ _ NN.out).mono ?_
      rintro e wz ⟨rfl, rfl⟩
      go_wp2_with fail
      refine (below_nil _ _ _ _ NN.out).mono ?_
      rintro e wz ⟨rfl, hb⟩
      replace NN := Lib.hid (NN.out.below hb)
      replace BB := Lib.hid (on BB.out hb)
      clear hb
      go_wp2_with fail
      go_roundw
      case rel => exact ⟨some ⟨wz.heap.size, 0, none⟩, k + 1, by omega, rfl, by go_num, .inr ⟨_, rfl, Blk.new wz _ _⟩, BB.out.alloc BB.out.size _⟩
      case measure => simp [intOf]; omega
    · clear NN
      go_wp2_with fail
      have hw0 := BB.out.size
      go_loopw [5, 6, 7] (fun dv wv iv wr => ∃ k : Nat, k ≤ 20 ∧ iv = .int .i64 k ∧ wr.ownsRow w.heap.size 29 2 dv k ((deepL k).flatMap dwCells) ∧ wr.ownsRow w.heap.size 29 2 wv k ((wideL k).flatMap dwCells) ∧ (∀ g, dv.ownBlock = some g → wv.ownBlock ≠ some g) ∧ Below w.heap.size w wr) (fun _ _ iv _ => 20 - (intOf iv).toNat)
      case atStart => exact ⟨0, by omega, rfl, World.ownsRow_nil _ _ _ _, World.ownsRow_nil _ _ _ _, (fun g h => by cases h), BB.out⟩
      case round =>
        clear BB hlt hk
        obtain ⟨k, hk, rfl, hd, hw, hap, hB⟩ := hrel
        have OD := Lib.hid hd
        have OW := Lib.hid hw
        have AP := Lib.hid hap
        have BB := Lib.hid hB
        have hsz := hB.size
        clear hd hw hap hB
        by_cases hlt : k < 20
        · go_wp2_with (first | (at_builtin; refine wpList_append_lies _ rfl (.tmp 57) (.tmp 60) 22 rfl w.heap.size 29 i0 _ 2 16 Try.underlying22 hi hz0 hz1 hz2 rfl (by omega) u5 k _ rfl (OD.out.alloc _) ⟨wr.heap.size, 0, none⟩ 1 1 [.int .i64 0, .int .i64 k] rfl rfl (World.news_of_block (cs := #[.int .i64 0, .int .i64 k]) (t := 29) (fr := (0, 0)) (heap_alloc_new wr _)) (by simp [Value.oneCell']) (by omega) (by unfold maxLen; omega) (by omega) (by simp; omega) (wr.heap.size + 1) (by simp) ?_; intro g1 c1 w1 hown1 hgrow1 hat1 hlt1; have OD1 := Lib.hid (show w1.ownsRow w.heap.size 29 2 (.slice (some ⟨g1, 0, none⟩) (k + 1) c1) (k + 1) ((deepL (k + 1)).flatMap dwCells) from (by rw [deep_succ, List.flatMap_append]; exact hown1)); have OW1 := Lib.hid (show w1.ownsRow w.heap.size 29 2 u6 k ((wideL k).flatMap dwCells) from (OW.out.alloc _).kept hgrow1 (apart_kept AP.out)); have AP1 := Lib.hid (apart_lies (n := k + 1) (c := c1) AP.out (fun g h => (OW.out.lt g h).2) hat1); have BB1 := Lib.hid ((BB.out.alloc hsz _).grown hgrow1 (by simp; omega) (fun g e => (OD.out.lt g e).1)); have hs1 := BB1.out.size; clear hown1 hgrow1 hat1) | (at_builtin; refine wpList_append_lies _ rfl (.tmp 62) (.tmp 64) 22 rfl w.heap.size 29 i0 _ 2 16 Try.underlying22 hi hz0 hz1 hz2 rfl (by omega) u6 k _ rfl (OW1.out.alloc _) ⟨w1.heap.size, 0, none⟩ 1 1 [.int .i64 0, .int .i64 1] rfl rfl (World.news_of_block (cs := #[.int .i64 0, .int .i64 1]) (t := 29) (fr := (0, 0)) (heap_alloc_new w1 _)) (by simp [Value.oneCell']) (by omega) (by unfold maxLen; omega) (by omega) (by simp; omega) (w1.heap.size + 1) (by simp) ?_; intro g2 c2 w2 hown2 hgrow2 hat2 hlt2; have OW2 := Lib.hid (show w2.ownsRow w.heap.size 29 2 (.slice (some ⟨g2, 0, none⟩) (k + 1) c2) (k + 1) ((wideL (k + 1)).flatMap dwCells) from (by rw [wide_succ, List.flatMap_append]; exact hown2)); have OD2 := Lib.hid ((OD1.out.alloc _).kept hgrow2 (apart_kept2 AP1.out)); have AP2 := Lib.hid (apart_lies2 (n := k + 1) (c := c2) AP1.out (fun g h => (OD1.out.lt g h).2) hat2); have BB2 := Lib.hid ((BB1.out.alloc hs1 _).grown hgrow2 (by simp; omega) (fun g e => (OW1.out.lt g e).1)); clear hown2 hgrow2 hat2))
          go_roundw
          case rel => exact ⟨k + 1, by omega, by go_num, OD2.out, OW2.out, AP2.out, BB2.out⟩
          case measure => simp [intOf]; omega
        · obtain rfl : k = 20 := by omega
          obtain ⟨gd, cd, rfl, -, -⟩ := OD.out.form (by omega)
          obtain ⟨gw, cw, rfl, -, -⟩ := OW.out.form (by omega)
          have HE := Lib.hid (show (wr.alloc (.cells #[] 29)).ownsRow w.heap.size 29 2 (.slice (some ⟨wr.heap.size, 0, none⟩) 0 0) 0 [] from ⟨rfl, .inr ⟨wr.heap.size, 0, #[], rfl, hsz, heap_alloc_new wr _, Nat.le_refl _, by simp [maxLen], rfl, rfl⟩⟩)
          have HN := Lib.hid (show ∀ (j : Nat) (u : Value), ((deepL 20).flatMap dwCells)[j]? = some u → (wr.alloc (.cells #[] 29)).cell? ((⟨gd, 0, none⟩ : Addr).add j) = some u from fun j u hj => by
            have hjl : j < 40 := by have := (List.getElem?_eq_some_iff.1 hj).1; rw [dw_len, deep_len] at this; exact this
            have hadd : (⟨gd, 0, none⟩ : Addr).add j = ⟨gd, j, none⟩ := by unfold Addr.add; split <;> simp_all
            rw [hadd, cel_ad' _ _ _ (OD.out.lt gd rfl).2, OD.out.cellAt j (by omega)]
            exact hj)
          clear AP hk hlt
          go_wp2_with (first | (at_builtin; refine wpList_append_lies _ rfl (.tmp 66) (.tmp 67) 22 rfl w.heap.size 29 i0 _ 2 16 Try.underlying22 hi hz0 hz1 hz2 rfl (by omega) (.slice (some ⟨wr.heap.size, 0, none⟩) 0 0) 0 [] rfl HE.out ⟨gd, 0, none⟩ 20 cd ((deepL 20).flatMap dwCells) rfl (by rw [dw_len, deep_len]) HN.out (dw_one _) (by omega) (by unfold maxLen; omega) (by omega) (by simp; omega) (wr.heap.size + 1) (by simp) ?_; intro g1 c1 w1 hown1 hgrow1 hat1 hlt1; have O1 := Lib.hid hown1; have B1 := Lib.hid (show Below wr.heap.size wr w1 from ((Below.refl _ _).alloc (Nat.le_refl _) _).grown hgrow1 (by simp) (fun g e => by cases e; exact Nat.le_refl _)); have G1 := Lib.hid (show wr.heap.size ≤ g1 from hat1.elim (fun h => Nat.le_of_eq (Option.some.inj h)) (fun h => by omega)); have hs1 := B1.out.size; clear hown1 hgrow1 hat1) | (at_builtin; refine wpList_append_lies _ rfl (.tmp 68) (.tmp 80) 22 rfl w.heap.size 29 i0 _ 2 16 Try.underlying22 hi hz0 hz1 hz2 rfl (by omega) (.slice (some ⟨g1, 0, none⟩) (0 + 20) c1) (0 + 20) _ rfl (O1.out.alloc _) ⟨w1.heap.size, 0, none⟩ 11 11 (tailL.flatMap dwCells) rfl (by rfl) (World.news_of_block (cs := #[.int .i64 1, .int .i64 4, .int .i64 1, .int .i64 4, .int .i64 1, .int .i64 8, .int .i64 1, .int .i64 7, .int .i64 0, .int .i64 7, .int .i64 0, .int .i64 4, .int .i64 0, .int .i64 5, .int .i64 1, .int .i64 0, .int .i64 1, .int .i64 1, .int .i64 1, .int .i64 17, .int .i64 1, .int .i64 (-1)]) (t := 29) (fr := (0, 0)) (heap_alloc_new w1 _)) (dw_one _) (by omega) (by unfold maxLen; omega) (by omega) (by simp; omega) (w1.heap.size + 1) (by simp) ?_; intro g2 c2 w2 hown2 hgrow2 hat2 hlt2; have O2 := Lib.hid hown2; have B2 := Lib.hid (show Below wr.heap.size wr w2 from (B1.out.alloc hs1 _).grown hgrow2 (by simp; omega) (fun g e => by cases e; exact G1.out)); clear hown2 hgrow2 hat2))
          have ID := Lib.hid (dos_own (owns_below OD.out B2.out) (deep_len 20))
          have IW := Lib.hid (dos_own (owns_below OW.out B2.out) (wide_len 20))
          have IM := Lib.hid (dos_own (l := deepL 20 ++ tailL) (by rw [List.flatMap_append]; exact O2.out) (by simp [deep_len, tailL]))
          replace BB := Lib.hid (on BB.out B2.out)
          have BK := Lib.hid (Below.refl w2.heap.size w2)
          clear OD OW HE HN O1 B1 G1 hs1 O2 B2
          generalize w2 = W2 at *
          refine (works_any _).mono ?_
          rintro e wz ⟨rfl, hb⟩
          replace BK := Lib.hid (on BK.out hb)
          clear hb
          go_wp2_with fail
          refine (plays_at [] none 0 0 _ (fun h => absurd rfl h) rfl (by omega) (by simp)).mono ?_
          rintro e wz ⟨rfl, hb⟩
          replace BK := Lib.hid (on BK.out hb)
          clear hb
          go_wp2_with fail
          refine (plays_at (deepL 20) _ 20 _ _ (ID.out.below BK.out) (deep_len 20) (by omega) deep_is).mono ?_
          rintro e wz ⟨rfl, hb⟩
          replace BK := Lib.hid (on BK.out hb)
          clear hb
          go_wp2_with fail
          refine (plays_at (wideL 20) _ 20 _ _ (IW.out.below BK.out) (wide_len 20) (by omega) wide_is).mono ?_
          rintro e wz ⟨rfl, hb⟩
          replace BK := Lib.hid (on BK.out hb)
          clear hb
          go_wp2_with fail
          refine (plays_at (deepL 20 ++ tailL) _ 31 _ _ (IM.out.below BK.out) (by simp [deep_len, tailL]) (by omega) more_is).mono ?_
          rintro e wz ⟨rfl, hb⟩
          replace BK := Lib.hid (on BK.out hb)
          clear hb
          go_wp2_with fail
          refine (paths_at (deepL 20) _ 20 _ _ (ID.out.below BK.out) (deep_len 20) (by omega)).mono ?_
          rintro e wz ⟨rfl, hb⟩
          replace BK := Lib.hid (on BK.out hb)
          clear hb
          go_wp2_with fail
          refine (heirs_at (deepL 20 ++ tailL) _ 31 _ _ (IM.out.below BK.out) (by simp [deep_len, tailL]) (by omega)).mono ?_
          rintro e wz ⟨rfl, hb⟩
          replace BK := Lib.hid (on BK.out hb)
          clear hb
          go_wp2_with fail
          go_ret
          exact ⟨rfl, on BB.out BK.out⟩
end Go.Proofs.Ytkkjnnmjfamkjaa
