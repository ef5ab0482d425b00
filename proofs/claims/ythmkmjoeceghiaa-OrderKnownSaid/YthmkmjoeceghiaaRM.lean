/- small: histories brought to be small. -/
import Derived.Test.YthmkmjoeceghiaaRN
import Derived.IntWalk
namespace Go.Proofs.Ythmkmjoeceghiaa
open Go.RowKit

attribute [local go_sem ↓] Go.wp_at_zero Go.wp_at_succ
/-- a call, brought to be small -/
def smD (x : Sp) : Dd := (1 + x.1.1 % 4, if 1 + x.1.1 % 4 = 2 then (0, 0, 0) else (0, 0, 1 + x.1.2.2.2 % 2))
def smT (x : Sp) : Int := if 0 ≤ x.2.2 then x.2.1 % 12 + x.2.2 % 6 else -1
def smS (x : Sp) : Sp := (smD x, x.2.1 % 12, smT x)
def smL (l : List Sp) : List Sp := (l.take 6).map smS
theorem smL_len (l : List Sp) : (smL l).length ≤ 6 := by unfold smL; rw [List.length_map, List.length_take]; omega
theorem smS_may (x : Sp) : May (smS x) := by
  have h1 := Int.emod_nonneg x.1.1 (show (4 : Int) ≠ 0 by decide)
  have h2 := Int.emod_lt_of_pos x.1.1 (show (0 : Int) < 4 by decide)
  have h3 := Int.emod_nonneg x.2.1 (show (12 : Int) ≠ 0 by decide)
  have h4 := Int.emod_lt_of_pos x.2.1 (show (0 : Int) < 12 by decide)
  have h5 := Int.emod_nonneg x.2.2 (show (6 : Int) ≠ 0 by decide)
  have h6 := Int.emod_lt_of_pos x.2.2 (show (0 : Int) < 6 by decide)
  unfold May smS smD smT
  dsimp only
  refine ⟨by omega, by omega, fun h => by rw [if_pos h], h3, by omega, ?_, ?_⟩
  · split <;> omega
  · split
    · exact .inr (by omega)
    · exact .inl rfl
theorem smS_wf (x : Sp) : WfO (smS x).1.2 := by
  have h3 := Int.emod_nonneg x.1.2.2.2 (show (2 : Int) ≠ 0 by decide)
  have h4 := Int.emod_lt_of_pos x.1.2.2.2 (show (0 : Int) < 2 by decide)
  unfold smS smD
  dsimp only
  split
  · exact ⟨⟨by decide, by decide⟩, ⟨by decide, by decide⟩, ⟨by decide, by decide⟩⟩
  · exact ⟨⟨by dsimp only; omega, by dsimp only; omega⟩, ⟨by dsimp only; omega, by dsimp only; omega⟩, ⟨by dsimp only; omega, by dsimp only; omega⟩⟩
theorem smL_chk (l : List Sp) : chk (smL l) = 0 := chk_may (by have := smL_len l; omega) fun i hi => by
  have hx := List.getElem?_eq_getElem hi
  rw [sp_at hx]
  generalize (smL l)[i] = x at hx
  unfold smL at hx
  rw [List.getElem?_map] at hx
  cases hy : (l.take 6)[i]? with
  | none => rw [hy] at hx; cases hx
  | some y =>
    rw [hy] at hx
    obtain rfl : smS y = x := Option.some.inj hx
    exact smS_may y
theorem smL_wf (l : List Sp) : WfS (smL l) := fun x hx => by
  unfold smL at hx
  obtain ⟨y, _, rfl⟩ := List.mem_map.1 hx
  exact smS_wf y
theorem take_smS {l : List Sp} {k : Nat} {x : Sp} (h : l[k]? = some x) : (l.take (k + 1)).map smS = (l.take k).map smS ++ [smS x] := by
  rw [take_succ h, List.map_append]; rfl
/-- a call that is being made small, in its block T -/
structure Sm (w : World) (T : Nat) (cs : Array Value) (rv : Value) (k : Nat) (xs : List Value) (wr : World) : Prop where
  b : Blk wr T cs 50
  r : wr.ownsRow w.heap.size 50 6 rv k xs
  below : Below w.heap.size w wr
theorem Sm.set {w wr w' : World} {T : Nat} {cs cs' : Array Value} {rv : Value} {k : Nat} {xs : List Value} (h : Sm w T cs rv k xs wr) (hT : rv.ownBlock ≠ some T) (hw : w.heap.size ≤ T) (hg : wr.grownBy w' (some T)) (hb : Blk w' T cs' 50) : Sm w T cs' rv k xs w' :=
  ⟨hb, h.r.kept hg (.inr hT), h.below.grown hg h.below.size (fun g e => by cases e; exact hw)⟩
def SmallIs (l : List Sp) (w : World) (e : Ending) (w' : World) : Prop := ∃ v, e = .returned v ∧ w'.ownsRow w.heap.size 50 6 v (smL l).length ((smL l).flatMap spCells) ∧ Below w.heap.size w w'
set_option maxRecDepth 100000 in
set_option maxHeartbeats 8000000 in
theorem small_any (l : List Sp) (a : Option Addr) (cap : Nat) (w : World) (hl : l.length ≤ 5000000000000) (hI : IsSpans w a l) :
    Calls Try.prog 34 #[.slice a l.length cap] w (SmallIs l w) := by
  obtain ⟨j0, hj, hy0, hy1, hy2⟩ := info_parts info50s
  have HI := Lib.hid hI
  obtain ⟨n, hn⟩ : ∃ n, n = min l.length 6 := ⟨_, rfl⟩
  have hn1 : n ≤ l.length := by omega
  have hn2 : n ≤ 6 := by omega
  have hn3 : n < 6 → l.length ≤ n := by omega
  clear hI hn
  go_enter Try.func34, Try.ntmps34
  go_wp2_with fail
  go_loopw [3, 4] (fun rv iv wr => ∃ k : Nat, k ≤ n ∧ iv = .int .i64 k ∧ wr.ownsRow w.heap.size 50 6 rv k (((l.take k).map smS).flatMap spCells) ∧ Below w.heap.size w wr) (fun _ iv _ => n - (intOf iv).toNat)
  case atStart => exact ⟨0, Nat.zero_le _, rfl, World.ownsRow_nil _ _ _ _, Below.refl _ _⟩
  case round =>
    obtain ⟨k, hkn, rfl, hR, hB⟩ := hrel
    have RR := Lib.hid hR
    have BB := Lib.hid hB
    obtain ⟨ra, rk, rfl, -, -⟩ := owns_form hR
    clear hR hB
    by_cases hlt : k < n
    · have hkl : k < l.length := by omega
      obtain ⟨g, off, rfl⟩ := HI.out.form (by omega)
      obtain ⟨x, hx⟩ : ∃ x, l[k]? = some x := ⟨_, List.getElem?_eq_getElem hkl⟩
      obtain ⟨d0, d1, d2, d3, d4, d5⟩ := (HI.out.below BB.out).at hkl
      rw [sp_at hx] at d0 d1 d2 d3 d4 d5
      have HX := Lib.hid hx
      have z0 : (0 : Int) ≤ (k : Int) := by omega
      have z1 : (k : Int) < (l.length : Int) := by omega
      have z2 : (k : Int) < 6 := by omega
      obtain ⟨⟨x0, o0, o1, o2⟩, f, t⟩ := x
      dsimp only at d0 d1 d2 d3 d4 d5
      have a1 := Int.emod_nonneg x0 (show (4 : Int) ≠ 0 by decide)
      have a2 := Int.emod_lt_of_pos x0 (show (0 : Int) < 4 by decide)
      have a3 := Int.emod_nonneg o2 (show (2 : Int) ≠ 0 by decide)
      have a4 := Int.emod_lt_of_pos o2 (show (0 : Int) < 2 by decide)
      have a5 := Int.emod_nonneg f (show (12 : Int) ≠ 0 by decide)
      have a6 := Int.emod_lt_of_pos f (show (0 : Int) < 12 by decide)
      have a7 := Int.emod_nonneg t (show (6 : Int) ≠ 0 by decide)
      have a8 := Int.emod_lt_of_pos t (show (0 : Int) < 6 by decide)
      obtain ⟨m, hm⟩ : ∃ m, m = 1 + x0 % 4 := ⟨_, rfl⟩
      obtain ⟨ob, hob⟩ : ∃ ob, ob = 1 + o2 % 2 := ⟨_, rfl⟩
      obtain ⟨fr, hfr⟩ : ∃ fr, fr = f % 12 := ⟨_, rfl⟩
      obtain ⟨tt, htt⟩ : ∃ tt, tt = t % 6 := ⟨_, rfl⟩
      have b1 : 0 ≤ fr ∧ fr < 12 := by omega
      have b2 : 0 ≤ tt ∧ tt < 6 := by omega
      have hw1 : IntKind.i64.wrap (1 + x0 % 4) = m := by rw [IntWalk.i64_in _ (by omega), hm]
      have hw2 : IntKind.i64.wrap (1 + o2 % 2) = ob := by rw [IntWalk.i64_in _ (by omega), hob]
      have hw3 : IntKind.i64.wrap (fr + tt) = fr + tt := IntWalk.i64_in _ (by omega)
      have h4 := bring_any x0 4
      have h2 := bring_any o2 2
      have h12 := bring_any f 12
      have h6 := bring_any t 6
      rw [← hfr] at h12
      rw [← htt] at h6
      have HM := Lib.hid (And.intro hm (And.intro hob (And.intro hfr htt)))
      clear hm hob hfr htt hx a1 a2 a3 a4 a5 a6 a7 a8
      go_upto_region 5 with fail
      have kB : ∀ w' : World, Below wr.heap.size wr w' → w'.cell? ⟨g, off + k * 6, none⟩ = some (.int .i64 x0) ∧ w'.cell? ⟨g, off + k * 6 + 3, none⟩ = some (.int .i64 o2) ∧ w'.cell? ⟨g, off + k * 6 + 4, none⟩ = some (.int .i64 f) ∧ w'.cell? ⟨g, off + k * 6 + 5, none⟩ = some (.int .i64 t) := fun w' h =>
        ⟨below_cell h (Nat.le_refl _) d0, below_cell h (Nat.le_refl _) d3, below_cell h (Nat.le_refl _) d4, below_cell h (Nat.le_refl _) d5⟩
      have KB := Lib.hid kB
      clear kB d0 d1 d2 d3 d4 d5
      go_cut [5] (fun s5 wx => ∃ T, s5 = .pointer (some ⟨T, 0, none⟩) ∧ wr.heap.size ≤ T ∧ Blk wx T #[.int .i64 m, .int .i64 0, .int .i64 0, .int .i64 ob, .int .i64 fr, .int .i64 (-1)] 50 ∧ Below wr.heap.size wr wx)
      case first =>
        refine till_start 27 (fun w' : World => w'.cell? ⟨g, off + k * 6, none⟩ = some (.int .i64 x0) ∧ w'.cell? ⟨g, off + k * 6 + 3, none⟩ = some (.int .i64 o2) ∧ w'.cell? ⟨g, off + k * 6 + 4, none⟩ = some (.int .i64 f) ∧ w'.cell? ⟨g, off + k * 6 + 5, none⟩ = some (.int .i64 t)) (by kernel_rfl) ?_
        have hHB := KB.out _ (Below.refl _ wr).drew
        have hHB2 := KB.out _ ((Below.refl _ wr).drew.alloc (by simp) (.cells #[.int .i64 0, .int .i64 0, .int .i64 0, .int .i64 0, .int .i64 0, .int .i64 0] 50))
        have HZ := Lib.hid hHB2
        clear hHB2
        refine till_take (i := 0) (v := ?_) rfl (by kernel_rfl) (by kernel_rfl) (by kernel_rfl) (by kernel_rfl) (fun _ _ _ h => h) (Or.inl ⟨by rfl, ?_⟩) hHB ?_
        rotate_left
        · (intro w hSw; (try dsimp only at hSw); go_simp; try with_reducible rfl)
        try simp only [Act.put, List.setIfInBounds_toArray, List.set_cons_zero, List.set_cons_succ]
        refine till_take (i := 1) (v := ?_) rfl (by kernel_rfl) (by kernel_rfl) (by kernel_rfl) (by kernel_rfl) (fun _ _ _ h => h) (Or.inl ⟨by rfl, ?_⟩) hHB ?_
        rotate_left
        · (intro w hSw; (try dsimp only at hSw); go_simp; try with_reducible rfl)
        try simp only [Act.put, List.setIfInBounds_toArray, List.set_cons_zero, List.set_cons_succ]
        refine till_take (i := 2) (v := ?_) rfl (by kernel_rfl) (by kernel_rfl) (by kernel_rfl) (by kernel_rfl) (fun _ _ _ h => h) (Or.inl ⟨by rfl, ?_⟩) hHB ?_
        rotate_left
        · (intro w hSw; (try dsimp only at hSw); go_simp; try with_reducible rfl)
        try simp only [Act.put, List.setIfInBounds_toArray, List.set_cons_zero, List.set_cons_succ]
        refine till_take (i := 3) (v := ?_) rfl (by kernel_rfl) (by kernel_rfl) (by kernel_rfl) (by kernel_rfl) (fun _ _ _ h => h) (Or.inl ⟨by rfl, ?_⟩) hHB ?_
        rotate_left
        · (intro w hSw; (try dsimp only at hSw); go_simp; try with_reducible rfl)
        try simp only [Act.put, List.setIfInBounds_toArray, List.set_cons_zero, List.set_cons_succ]
        refine till_take (i := 4) (v := ?_) rfl (by kernel_rfl) (by kernel_rfl) (by kernel_rfl) (by kernel_rfl) (fun _ _ _ h => h) (Or.inl ⟨by rfl, ?_⟩) hHB ?_
        rotate_left
        · (intro w hSw; (try dsimp only at hSw); go_simp; try with_reducible rfl)
        try simp only [Act.put, List.setIfInBounds_toArray, List.set_cons_zero, List.set_cons_succ]
        refine till_take (i := 5) (v := ?_) rfl (by kernel_rfl) (by kernel_rfl) (by kernel_rfl) (by kernel_rfl) (fun _ _ _ h => h) (Or.inl ⟨by rfl, ?_⟩) hHB ?_
        rotate_left
        · (intro w hSw; (try dsimp only at hSw); go_simp; try with_reducible rfl)
        try simp only [Act.put, List.setIfInBounds_toArray, List.set_cons_zero, List.set_cons_succ]
        refine till_take (i := 8) (v := ?_) rfl (by kernel_rfl) (by kernel_rfl) (by kernel_rfl) (by kernel_rfl) (fun _ _ _ h => h) (Or.inl ⟨by rfl, ?_⟩) hHB ?_
        rotate_left
        · (intro w hSw; (try dsimp only at hSw); go_simp; try with_reducible rfl)
        try simp only [Act.put, List.setIfInBounds_toArray, List.set_cons_zero, List.set_cons_succ]
        refine till_take (i := 9) (v := ?_) rfl (by kernel_rfl) (by kernel_rfl) (by kernel_rfl) (by kernel_rfl) (fun _ _ _ h => h) (Or.inl ⟨by rfl, ?_⟩) hHB ?_
        rotate_left
        · (intro w hSw; (try dsimp only at hSw); go_simp; try with_reducible rfl)
        try simp only [Act.put, List.setIfInBounds_toArray, List.set_cons_zero, List.set_cons_succ]
        refine till_take (i := 10) (v := ?_) rfl (by kernel_rfl) (by kernel_rfl) (by kernel_rfl) (by kernel_rfl) (fun _ _ _ h => h) (Or.inl ⟨by rfl, ?_⟩) hHB ?_
        rotate_left
        · (intro w hSw; (try dsimp only at hSw); go_simp; try with_reducible rfl)
        try simp only [Act.put, List.setIfInBounds_toArray, List.set_cons_zero, List.set_cons_succ]
        refine till_take (i := 11) (v := ?_) rfl (by kernel_rfl) (by kernel_rfl) (by kernel_rfl) (by kernel_rfl) (fun _ _ _ h => h) (Or.inl ⟨by rfl, ?_⟩) hHB ?_
        rotate_left
        · (intro w hSw; (try dsimp only at hSw); go_simp; try with_reducible rfl)
        try simp only [Act.put, List.setIfInBounds_toArray, List.set_cons_zero, List.set_cons_succ]
        refine till_take (i := 12) (v := ?_) rfl (by kernel_rfl) (by kernel_rfl) (by kernel_rfl) (by kernel_rfl) (fun _ _ _ h => h) (Or.inl ⟨by rfl, ?_⟩) hHB ?_
        rotate_left
        · (intro w hSw; (try dsimp only at hSw); go_simp; try with_reducible rfl)
        try simp only [Act.put, List.setIfInBounds_toArray, List.set_cons_zero, List.set_cons_succ]
        refine till_take (i := 13) (v := ?_) rfl (by kernel_rfl) (by kernel_rfl) (by kernel_rfl) (by kernel_rfl) (fun _ _ _ h => h) (Or.inl ⟨by rfl, ?_⟩) hHB ?_
        rotate_left
        · (intro w hSw; (try dsimp only at hSw); go_simp; try with_reducible rfl)
        try simp only [Act.put, List.setIfInBounds_toArray, List.set_cons_zero, List.set_cons_succ]
        refine till_take (i := 14) (v := ?_) rfl (by kernel_rfl) (by kernel_rfl) (by kernel_rfl) (by kernel_rfl) (fun _ _ _ h => h) (Or.inl ⟨by rfl, ?_⟩) hHB ?_
        rotate_left
        · (intro w hSw; (try dsimp only at hSw); go_simp; try with_reducible rfl)
        try simp only [Act.put, List.setIfInBounds_toArray, List.set_cons_zero, List.set_cons_succ]
        refine till_take (i := 19) (v := ?_) rfl (by kernel_rfl) (by kernel_rfl) (by kernel_rfl) (by kernel_rfl) (fun _ _ _ h => h) (Or.inl ⟨by rfl, ?_⟩) hHB ?_
        rotate_left
        · (intro w hSw; (try dsimp only at hSw); go_simp; try with_reducible rfl)
        try simp only [Act.put, List.setIfInBounds_toArray, List.set_cons_zero, List.set_cons_succ]
        refine till_take (i := 20) (v := ?_) rfl (by kernel_rfl) (by kernel_rfl) (by kernel_rfl) (by kernel_rfl) (fun _ _ _ h => h) (Or.inl ⟨by rfl, ?_⟩) hHB ?_
        rotate_left
        · (intro w hSw; (try dsimp only at hSw); go_simp; try with_reducible rfl)
        try simp only [Act.put, List.setIfInBounds_toArray, List.set_cons_zero, List.set_cons_succ]
        refine till_take (i := 21) (v := ?_) rfl (by kernel_rfl) (by kernel_rfl) (by kernel_rfl) (by kernel_rfl) (fun _ _ _ h => h) (Or.inl ⟨by rfl, ?_⟩) hHB ?_
        rotate_left
        · (intro w hSw; (try dsimp only at hSw); go_simp; try with_reducible rfl)
        try simp only [Act.put, List.setIfInBounds_toArray, List.set_cons_zero, List.set_cons_succ]
        refine till_take (i := 22) (v := ?_) rfl (by kernel_rfl) (by kernel_rfl) (by kernel_rfl) (by kernel_rfl) (fun _ _ _ h => h) (Or.inl ⟨by rfl, ?_⟩) hHB ?_
        rotate_left
        · (intro w hSw; (try dsimp only at hSw); go_simp; try with_reducible rfl)
        try simp only [Act.put, List.setIfInBounds_toArray, List.set_cons_zero, List.set_cons_succ]
        refine till_take (i := 23) (v := ?_) rfl (by kernel_rfl) (by kernel_rfl) (by kernel_rfl) (by kernel_rfl) (fun _ _ _ h => h) (Or.inl ⟨by rfl, ?_⟩) hHB ?_
        rotate_left
        · (intro w hSw; (try dsimp only at hSw); go_simp; try with_reducible rfl)
        try simp only [Act.put, List.setIfInBounds_toArray, List.set_cons_zero, List.set_cons_succ]
        refine till_two (i := 6) (j := 26) (by kernel_rfl) rfl rfl (fun K hK => ?_) (fun K hK => ?_)
        ·
          go_simp
          refine (bring_any x0 4 _ (by decide) (by decide)).mono ?_
          rintro e wX ⟨rfl, rfl⟩
          try go_wp2_with fail
          refine hK.out _ _ (fun _ => hHB) ?_
          clear hK K
          try simp only [Act.put, List.setIfInBounds_toArray, List.set_cons_zero, List.set_cons_succ]
          refine till_take (i := 7) (v := ?_) rfl (by kernel_rfl) (by kernel_rfl) (by kernel_rfl) (by kernel_rfl) (fun _ _ _ h => h) (Or.inl ⟨by rfl, ?_⟩) hHB ?_
          rotate_left
          · (intro w hSw; (try dsimp only at hSw); go_simp; try with_reducible rfl)
          try simp only [Act.put, List.setIfInBounds_toArray, List.set_cons_zero, List.set_cons_succ]
          refine till_two (i := 15) (j := 26) (by kernel_rfl) rfl rfl (fun K hK => ?_) (fun K hK => ?_)
          ·
            go_simp
            refine (bring_any o2 2 _ (by decide) (by decide)).mono ?_
            rintro e wX ⟨rfl, rfl⟩
            try go_wp2_with fail
            refine hK.out _ _ (fun _ => hHB) ?_
            clear hK K
            try simp only [Act.put, List.setIfInBounds_toArray, List.set_cons_zero, List.set_cons_succ]
            refine till_take (i := 16) (v := ?_) rfl (by kernel_rfl) (by kernel_rfl) (by kernel_rfl) (by kernel_rfl) (fun _ _ _ h => h) (Or.inl ⟨by rfl, ?_⟩) hHB ?_
            rotate_left
            · (intro w hSw; (try dsimp only at hSw); go_simp; try with_reducible rfl)
            try simp only [Act.put, List.setIfInBounds_toArray, List.set_cons_zero, List.set_cons_succ]
            refine till_take (i := 17) (v := ?_) rfl (by kernel_rfl) (by kernel_rfl) (by kernel_rfl) (by kernel_rfl) (fun _ _ _ h => h) (Or.inl ⟨by rfl, ?_⟩) hHB ?_
            rotate_left
            · (intro w hSw; (try dsimp only at hSw); go_simp; try with_reducible rfl)
            try simp only [Act.put, List.setIfInBounds_toArray, List.set_cons_zero, List.set_cons_succ]
            refine till_take (i := 18) (v := ?_) rfl (by kernel_rfl) (by kernel_rfl) (by kernel_rfl) (by kernel_rfl) (fun _ _ _ h => h) (Or.inl ⟨by rfl, ?_⟩) hHB ?_
            rotate_left
            · (intro w hSw; (try dsimp only at hSw); go_simp; try with_reducible rfl)
            try simp only [Act.put, List.setIfInBounds_toArray, List.set_cons_zero, List.set_cons_succ]
            refine till_two (i := 24) (j := 26) (by kernel_rfl) rfl rfl (fun K hK => ?_) (fun K hK => ?_)
            ·
              go_simp
              refine (h12 _ (by decide) (by decide)).mono ?_
              rintro e wX ⟨rfl, rfl⟩
              try go_wp2_with fail
              refine hK.out _ _ (fun _ => hHB) ?_
              clear hK K
              try simp only [Act.put, List.setIfInBounds_toArray, List.set_cons_zero, List.set_cons_succ]
              refine till_take (i := 25) (v := ?_) rfl (by kernel_rfl) (by kernel_rfl) (by kernel_rfl) (by kernel_rfl) (fun _ _ _ h => h) (Or.inl ⟨by rfl, ?_⟩) hHB ?_
              rotate_left
              · (intro w hSw; (try dsimp only at hSw); go_simp; try with_reducible rfl)
              try simp only [Act.put, List.setIfInBounds_toArray, List.set_cons_zero, List.set_cons_succ]
              refine till_one (i := 26) (by kernel_rfl) rfl (fun K hK => ?_)
              go_simp
              refine hK.out _ _ (fun _ => HZ.out) ?_
              clear hK K hHB
              try simp only [Act.put, List.setIfInBounds_toArray, List.set_cons_zero, List.set_cons_succ]
              have hHB := HZ.out
              clear hHB
              refine till_one (i := 27) (by kernel_rfl) rfl (fun K hK => ?_)
              go_simp
              refine hK.out _ _ (fun h => absurd rfl h) ?_
              clear hK K
              try simp only [Act.put, List.setIfInBounds_toArray, List.set_cons_zero, List.set_cons_succ]
              refine till_done (by kernel_rfl) ?_ _
              clear hw1 hw2 hw3 h2 h4 h6 h12
              go_wp2_with fail
              go_meet
              exact ⟨_, rfl, Nat.le_refl _, Blk.new wr _ 50, ((Below.refl _ wr).alloc (Nat.le_refl _) _).drew⟩
            ·
              go_simp
              refine hK.out _ _ (fun _ => HZ.out) ?_
              clear hK K hHB
              try simp only [Act.put, List.setIfInBounds_toArray, List.set_cons_zero, List.set_cons_succ]
              have hHB := HZ.out
              refine till_one (i := 24) (by kernel_rfl) rfl (fun K hK => ?_)
              go_simp
              refine (h12 _ (by decide) (by decide)).mono ?_
              rintro e wX ⟨rfl, rfl⟩
              try go_wp2_with fail
              refine hK.out _ _ (fun _ => hHB) ?_
              clear hK K
              try simp only [Act.put, List.setIfInBounds_toArray, List.set_cons_zero, List.set_cons_succ]
              refine till_take (i := 25) (v := ?_) rfl (by kernel_rfl) (by kernel_rfl) (by kernel_rfl) (by kernel_rfl) (fun _ _ _ h => h) (Or.inl ⟨by rfl, ?_⟩) hHB ?_
              rotate_left
              · (intro w hSw; (try dsimp only at hSw); go_simp; try with_reducible rfl)
              try simp only [Act.put, List.setIfInBounds_toArray, List.set_cons_zero, List.set_cons_succ]
              clear hHB
              refine till_one (i := 27) (by kernel_rfl) rfl (fun K hK => ?_)
              go_simp
              refine hK.out _ _ (fun h => absurd rfl h) ?_
              clear hK K
              try simp only [Act.put, List.setIfInBounds_toArray, List.set_cons_zero, List.set_cons_succ]
              refine till_done (by kernel_rfl) ?_ _
              clear hw1 hw2 hw3 h2 h4 h6 h12
              go_wp2_with fail
              go_meet
              exact ⟨_, rfl, Nat.le_refl _, Blk.new wr _ 50, ((Below.refl _ wr).alloc (Nat.le_refl _) _).drew⟩
          ·
            go_simp
            refine hK.out _ _ (fun _ => HZ.out) ?_
            clear hK K hHB
            try simp only [Act.put, List.setIfInBounds_toArray, List.set_cons_zero, List.set_cons_succ]
            have hHB := HZ.out
            refine till_one (i := 15) (by kernel_rfl) rfl (fun K hK => ?_)
            go_simp
            refine (bring_any o2 2 _ (by decide) (by decide)).mono ?_
            rintro e wX ⟨rfl, rfl⟩
            try go_wp2_with fail
            refine hK.out _ _ (fun _ => hHB) ?_
            clear hK K
            try simp only [Act.put, List.setIfInBounds_toArray, List.set_cons_zero, List.set_cons_succ]
            refine till_take (i := 16) (v := ?_) rfl (by kernel_rfl) (by kernel_rfl) (by kernel_rfl) (by kernel_rfl) (fun _ _ _ h => h) (Or.inl ⟨by rfl, ?_⟩) hHB ?_
            rotate_left
            · (intro w hSw; (try dsimp only at hSw); go_simp; try with_reducible rfl)
            try simp only [Act.put, List.setIfInBounds_toArray, List.set_cons_zero, List.set_cons_succ]
            refine till_take (i := 17) (v := ?_) rfl (by kernel_rfl) (by kernel_rfl) (by kernel_rfl) (by kernel_rfl) (fun _ _ _ h => h) (Or.inl ⟨by rfl, ?_⟩) hHB ?_
            rotate_left
            · (intro w hSw; (try dsimp only at hSw); go_simp; try with_reducible rfl)
            try simp only [Act.put, List.setIfInBounds_toArray, List.set_cons_zero, List.set_cons_succ]
            refine till_take (i := 18) (v := ?_) rfl (by kernel_rfl) (by kernel_rfl) (by kernel_rfl) (by kernel_rfl) (fun _ _ _ h => h) (Or.inl ⟨by rfl, ?_⟩) hHB ?_
            rotate_left
            · (intro w hSw; (try dsimp only at hSw); go_simp; try with_reducible rfl)
            try simp only [Act.put, List.setIfInBounds_toArray, List.set_cons_zero, List.set_cons_succ]
            refine till_one (i := 24) (by kernel_rfl) rfl (fun K hK => ?_)
            go_simp
            refine (h12 _ (by decide) (by decide)).mono ?_
            rintro e wX ⟨rfl, rfl⟩
            try go_wp2_with fail
            refine hK.out _ _ (fun _ => hHB) ?_
            clear hK K
            try simp only [Act.put, List.setIfInBounds_toArray, List.set_cons_zero, List.set_cons_succ]
            refine till_take (i := 25) (v := ?_) rfl (by kernel_rfl) (by kernel_rfl) (by kernel_rfl) (by kernel_rfl) (fun _ _ _ h => h) (Or.inl ⟨by rfl, ?_⟩) hHB ?_
            rotate_left
            · (intro w hSw; (try dsimp only at hSw); go_simp; try with_reducible rfl)
            try simp only [Act.put, List.setIfInBounds_toArray, List.set_cons_zero, List.set_cons_succ]
            clear hHB
            refine till_one (i := 27) (by kernel_rfl) rfl (fun K hK => ?_)
            go_simp
            refine hK.out _ _ (fun h => absurd rfl h) ?_
            clear hK K
            try simp only [Act.put, List.setIfInBounds_toArray, List.set_cons_zero, List.set_cons_succ]
            refine till_done (by kernel_rfl) ?_ _
            clear hw1 hw2 hw3 h2 h4 h6 h12
            go_wp2_with fail
            go_meet
            exact ⟨_, rfl, Nat.le_refl _, Blk.new wr _ 50, ((Below.refl _ wr).alloc (Nat.le_refl _) _).drew⟩
        ·
          go_simp
          refine hK.out _ _ (fun _ => HZ.out) ?_
          clear hK K hHB
          try simp only [Act.put, List.setIfInBounds_toArray, List.set_cons_zero, List.set_cons_succ]
          have hHB := HZ.out
          refine till_one (i := 6) (by kernel_rfl) rfl (fun K hK => ?_)
          go_simp
          refine (bring_any x0 4 _ (by decide) (by decide)).mono ?_
          rintro e wX ⟨rfl, rfl⟩
          try go_wp2_with fail
          refine hK.out _ _ (fun _ => hHB) ?_
          clear hK K
          try simp only [Act.put, List.setIfInBounds_toArray, List.set_cons_zero, List.set_cons_succ]
          refine till_take (i := 7) (v := ?_) rfl (by kernel_rfl) (by kernel_rfl) (by kernel_rfl) (by kernel_rfl) (fun _ _ _ h => h) (Or.inl ⟨by rfl, ?_⟩) hHB ?_
          rotate_left
          · (intro w hSw; (try dsimp only at hSw); go_simp; try with_reducible rfl)
          try simp only [Act.put, List.setIfInBounds_toArray, List.set_cons_zero, List.set_cons_succ]
          refine till_one (i := 15) (by kernel_rfl) rfl (fun K hK => ?_)
          go_simp
          refine (bring_any o2 2 _ (by decide) (by decide)).mono ?_
          rintro e wX ⟨rfl, rfl⟩
          try go_wp2_with fail
          refine hK.out _ _ (fun _ => hHB) ?_
          clear hK K
          try simp only [Act.put, List.setIfInBounds_toArray, List.set_cons_zero, List.set_cons_succ]
          refine till_take (i := 16) (v := ?_) rfl (by kernel_rfl) (by kernel_rfl) (by kernel_rfl) (by kernel_rfl) (fun _ _ _ h => h) (Or.inl ⟨by rfl, ?_⟩) hHB ?_
          rotate_left
          · (intro w hSw; (try dsimp only at hSw); go_simp; try with_reducible rfl)
          try simp only [Act.put, List.setIfInBounds_toArray, List.set_cons_zero, List.set_cons_succ]
          refine till_take (i := 17) (v := ?_) rfl (by kernel_rfl) (by kernel_rfl) (by kernel_rfl) (by kernel_rfl) (fun _ _ _ h => h) (Or.inl ⟨by rfl, ?_⟩) hHB ?_
          rotate_left
          · (intro w hSw; (try dsimp only at hSw); go_simp; try with_reducible rfl)
          try simp only [Act.put, List.setIfInBounds_toArray, List.set_cons_zero, List.set_cons_succ]
          refine till_take (i := 18) (v := ?_) rfl (by kernel_rfl) (by kernel_rfl) (by kernel_rfl) (by kernel_rfl) (fun _ _ _ h => h) (Or.inl ⟨by rfl, ?_⟩) hHB ?_
          rotate_left
          · (intro w hSw; (try dsimp only at hSw); go_simp; try with_reducible rfl)
          try simp only [Act.put, List.setIfInBounds_toArray, List.set_cons_zero, List.set_cons_succ]
          refine till_one (i := 24) (by kernel_rfl) rfl (fun K hK => ?_)
          go_simp
          refine (h12 _ (by decide) (by decide)).mono ?_
          rintro e wX ⟨rfl, rfl⟩
          try go_wp2_with fail
          refine hK.out _ _ (fun _ => hHB) ?_
          clear hK K
          try simp only [Act.put, List.setIfInBounds_toArray, List.set_cons_zero, List.set_cons_succ]
          refine till_take (i := 25) (v := ?_) rfl (by kernel_rfl) (by kernel_rfl) (by kernel_rfl) (by kernel_rfl) (fun _ _ _ h => h) (Or.inl ⟨by rfl, ?_⟩) hHB ?_
          rotate_left
          · (intro w hSw; (try dsimp only at hSw); go_simp; try with_reducible rfl)
          try simp only [Act.put, List.setIfInBounds_toArray, List.set_cons_zero, List.set_cons_succ]
          clear hHB
          refine till_one (i := 27) (by kernel_rfl) rfl (fun K hK => ?_)
          go_simp
          refine hK.out _ _ (fun h => absurd rfl h) ?_
          clear hK K
          try simp only [Act.put, List.setIfInBounds_toArray, List.set_cons_zero, List.set_cons_succ]
          refine till_done (by kernel_rfl) ?_ _
          clear hw1 hw2 hw3 h2 h4 h6 h12
          go_wp2_with fail
          go_meet
          exact ⟨_, rfl, Nat.le_refl _, Blk.new wr _ 50, ((Below.refl _ wr).alloc (Nat.le_refl _) _).drew⟩
      case rest =>
        obtain ⟨T, rfl, hTs, hT, hb⟩ := hcut
        have hTd : (Value.slice ra k rk).ownBlock ≠ some T := fun e => by have := (RR.out.lt T e).2; omega
        have hTw : w.heap.size ≤ T := by have := BB.out.size; omega
        have S1 := Lib.hid (show Sm w T #[.int .i64 m, .int .i64 0, .int .i64 0, .int .i64 ob, .int .i64 fr, .int .i64 (-1)] (.slice ra k rk) k (((l.take k).map smS).flatMap spCells) wc from ⟨hT, owns_below RR.out hb, on2 BB.out hb⟩)
        have r0 : wc.cell? ⟨T, 0, none⟩ = some (.int .i64 m) := hT.cell (i := 0) rfl
        have r1 : wc.cell? ⟨T, 1, none⟩ = some (.int .i64 0) := hT.cell (i := 1) rfl
        have r2 : wc.cell? ⟨T, 2, none⟩ = some (.int .i64 0) := hT.cell (i := 2) rfl
        have r3 : wc.cell? ⟨T, 3, none⟩ = some (.int .i64 ob) := hT.cell (i := 3) rfl
        have f1 := hT.frozen 1
        have f2 := hT.frozen 2
        have f3 := hT.frozen 3
        obtain ⟨oo, hoo⟩ : ∃ oo : Ob, oo = if m = 2 then (0, 0, 0) else (0, 0, ob) := ⟨_, rfl⟩
        have HOO := Lib.hid hoo
        clear hT hb KB RR BB hw1 hw2 h4 h2 h12 hoo
        go_upto_if 45 with fail
        go_cut [] (fun wx => Sm w T #[.int .i64 m, .int .i64 oo.1, .int .i64 oo.2.1, .int .i64 oo.2.2, .int .i64 fr, .int .i64 (-1)] (.slice ra k rk) k (((l.take k).map smS).flatMap spCells) wx)
        case first =>
          by_cases hk2 : m = 2
          · have e2 : (m == 2) = true := by simpa using hk2
            have eO := Lib.hid (show oo = (0, 0, 0) by rw [HOO.out, if_pos hk2])
            have S2 := Lib.hid (S1.out.set hTd hTw (grown_trans (grown_trans (set_grown wc T 1 (.int .i64 0)) (set_grown _ T 2 (.int .i64 0))) (set_grown _ T 3 (.int .i64 0))) (((S1.out.b.set 1 (.int .i64 0) rfl).set 2 (.int .i64 0) rfl).set 3 (.int .i64 0) rfl))
            clear hk2
            go_wp2_with fail
            go_meet
            rw [eO.out]; exact S2.out
          · have e2 : (m == 2) = false := by simpa using hk2
            have eO := Lib.hid (show oo = (0, 0, ob) by rw [HOO.out, if_neg hk2])
            clear hk2
            go_wp2_with fail
            go_meet
            rw [eO.out]; exact S1.out
        case rest =>
          have S2 := Lib.hid hcut
          clear hcut S1 r0 r1 r2 r3 f1 f2 f3
          obtain ⟨-, -, -, -, -, d5⟩ := (HI.out.below S2.out.below).at hkl
          rw [sp_at HX.out] at d5
          dsimp only at d5
          obtain ⟨tz, htz⟩ : ∃ tz, tz = if 0 ≤ t then fr + tt else -1 := ⟨_, rfl⟩
          have HTZ := Lib.hid htz
          clear htz
          go_upto_if 54 with fail
          go_cut [] (fun wx => Sm w T #[.int .i64 m, .int .i64 oo.1, .int .i64 oo.2.1, .int .i64 oo.2.2, .int .i64 fr, .int .i64 tz] (.slice ra k rk) k (((l.take k).map smS).flatMap spCells) wx)
          case first =>
            by_cases ht0 : 0 ≤ t
            · have eT := Lib.hid (show tz = fr + tt by rw [HTZ.out, if_pos ht0])
              go_wp2_with fail
              have S3 := Lib.hid (show Sm w T #[.int .i64 m, .int .i64 oo.1, .int .i64 oo.2.1, .int .i64 oo.2.2, .int .i64 fr, .int .i64 (-1)] (.slice ra k rk) k (((l.take k).map smS).flatMap spCells) wc.drew from ⟨S2.out.b, S2.out.r, S2.out.below.drew⟩)
              refine till_start 10 (fun w' : World => w'.cell? ⟨T, 4, none⟩ = some (.int .i64 fr) ∧ w'.cell? ⟨g, off + k * 6 + 5, none⟩ = some (.int .i64 t)) (by kernel_rfl) ?_
              generalize wc.drew = wA at *
              clear d5
              obtain ⟨-, -, -, -, -, d5⟩ := (HI.out.below S3.out.below).at hkl
              rw [sp_at HX.out] at d5
              dsimp only at d5
              have hHB : wA.cell? ⟨T, 4, none⟩ = some (.int .i64 fr) ∧ wA.cell? ⟨g, off + k * 6 + 5, none⟩ = some (.int .i64 t) := ⟨S3.out.b.cell rfl, d5⟩
              clear d5
              refine till_take (i := 0) (v := ?_) rfl (by kernel_rfl) (by kernel_rfl) (by kernel_rfl) (by kernel_rfl) (fun _ _ _ h => h) (Or.inl ⟨by rfl, ?_⟩) hHB ?_
              rotate_left
              · (intro w hSw; (try dsimp only at hSw); go_simp; try with_reducible rfl)
              try simp only [Act.put, List.setIfInBounds_toArray, List.set_cons_zero, List.set_cons_succ]
              refine till_take (i := 1) (v := ?_) rfl (by kernel_rfl) (by kernel_rfl) (by kernel_rfl) (by kernel_rfl) (fun _ _ _ h => h) (Or.inl ⟨by rfl, ?_⟩) hHB ?_
              rotate_left
              · (intro w hSw; (try dsimp only at hSw); go_simp; try with_reducible rfl)
              try simp only [Act.put, List.setIfInBounds_toArray, List.set_cons_zero, List.set_cons_succ]
              refine till_take (i := 2) (v := ?_) rfl (by kernel_rfl) (by kernel_rfl) (by kernel_rfl) (by kernel_rfl) (fun _ _ _ h => h) (Or.inl ⟨by rfl, ?_⟩) hHB ?_
              rotate_left
              · (intro w hSw; (try dsimp only at hSw); go_simp; try with_reducible rfl)
              try simp only [Act.put, List.setIfInBounds_toArray, List.set_cons_zero, List.set_cons_succ]
              refine till_take (i := 3) (v := ?_) rfl (by kernel_rfl) (by kernel_rfl) (by kernel_rfl) (by kernel_rfl) (fun _ _ _ h => h) (Or.inl ⟨by rfl, ?_⟩) hHB ?_
              rotate_left
              · (intro w hSw; (try dsimp only at hSw); go_simp; try with_reducible rfl)
              try simp only [Act.put, List.setIfInBounds_toArray, List.set_cons_zero, List.set_cons_succ]
              refine till_take (i := 4) (v := ?_) rfl (by kernel_rfl) (by kernel_rfl) (by kernel_rfl) (by kernel_rfl) (fun _ _ _ h => h) (Or.inl ⟨by rfl, ?_⟩) hHB ?_
              rotate_left
              · (intro w hSw; (try dsimp only at hSw); go_simp; try with_reducible rfl)
              try simp only [Act.put, List.setIfInBounds_toArray, List.set_cons_zero, List.set_cons_succ]
              refine till_take (i := 5) (v := ?_) rfl (by kernel_rfl) (by kernel_rfl) (by kernel_rfl) (by kernel_rfl) (fun _ _ _ h => h) (Or.inl ⟨by rfl, ?_⟩) hHB ?_
              rotate_left
              · (intro w hSw; (try dsimp only at hSw); go_simp; try with_reducible rfl)
              try simp only [Act.put, List.setIfInBounds_toArray, List.set_cons_zero, List.set_cons_succ]
              refine till_take (i := 6) (v := ?_) rfl (by kernel_rfl) (by kernel_rfl) (by kernel_rfl) (by kernel_rfl) (fun _ _ _ h => h) (Or.inl ⟨by rfl, ?_⟩) hHB ?_
              rotate_left
              · (intro w hSw; (try dsimp only at hSw); go_simp; try with_reducible rfl)
              try simp only [Act.put, List.setIfInBounds_toArray, List.set_cons_zero, List.set_cons_succ]
              refine till_one (i := 7) (by kernel_rfl) rfl (fun K hK => ?_)
              go_simp
              refine (h6 _ (by decide) (by decide)).mono ?_
              rintro e wX ⟨rfl, rfl⟩
              try go_wp2_with fail
              refine hK.out _ _ (fun _ => hHB) ?_
              clear hK K
              try simp only [Act.put, List.setIfInBounds_toArray, List.set_cons_zero, List.set_cons_succ]
              refine till_take (i := 8) (v := ?_) rfl (by kernel_rfl) (by kernel_rfl) (by kernel_rfl) (by kernel_rfl) (fun _ _ _ h => h) (Or.inl ⟨by rfl, ?_⟩) hHB ?_
              rotate_left
              · (intro w hSw; (try dsimp only at hSw); go_simp; try with_reducible rfl)
              try simp only [Act.put, List.setIfInBounds_toArray, List.set_cons_zero, List.set_cons_succ]
              refine till_take (i := 9) (v := ?_) rfl (by kernel_rfl) (by kernel_rfl) (by kernel_rfl) (by kernel_rfl) (fun _ _ _ h => h) (Or.inl ⟨by rfl, ?_⟩) hHB ?_
              rotate_left
              · (intro w hSw; (try dsimp only at hSw); go_simp; try with_reducible rfl)
              try simp only [Act.put, List.setIfInBounds_toArray, List.set_cons_zero, List.set_cons_succ]
              clear hHB
              have s1 := S3.out.b.cell (i := 5) rfl
              have s2 := S3.out.b.frozen 5
              simp at s1
              refine till_one (i := 10) (by kernel_rfl) rfl (fun K hK => ?_)
              go_simp
              refine hK.out _ _ (fun h => absurd rfl h) ?_
              clear hK K s1 s2
              try simp only [Act.put, List.setIfInBounds_toArray, List.set_cons_zero, List.set_cons_succ]
              refine till_done (by kernel_rfl) ?_ _
              have S4 := Lib.hid (S3.out.set hTd hTw (set_grown wA T 5 (.int .i64 (fr + tt))) (S3.out.b.set 5 (.int .i64 (fr + tt)) rfl))
              clear hw3 h6
              go_wp2_with fail
              go_meet
              rw [eT.out]; exact S4.out
            · have e2 : decide (0 ≤ t) = false := decide_eq_false ht0
              have e3 : t < 0 := by omega
              have eT := Lib.hid (show tz = -1 by rw [HTZ.out, if_neg ht0])
              clear ht0
              go_wp2_with fail
              go_meet
              rw [eT.out]; exact S2.out
          case rest =>
            have S3 := Lib.hid hcut
            clear hcut S2 d5 hw3 h6
            have hsz := S3.out.below.size
            have r0 : wc.cell? ⟨T, 0, none⟩ = some (.int .i64 m) := S3.out.b.cell (i := 0) rfl
            have r1 : wc.cell? ⟨T, 1, none⟩ = some (.int .i64 oo.1) := S3.out.b.cell (i := 1) rfl
            have r2 : wc.cell? ⟨T, 2, none⟩ = some (.int .i64 oo.2.1) := S3.out.b.cell (i := 2) rfl
            have r3 : wc.cell? ⟨T, 3, none⟩ = some (.int .i64 oo.2.2) := S3.out.b.cell (i := 3) rfl
            have r4 : wc.cell? ⟨T, 4, none⟩ = some (.int .i64 fr) := S3.out.b.cell (i := 4) rfl
            have r5 : wc.cell? ⟨T, 5, none⟩ = some (.int .i64 tz) := S3.out.b.cell (i := 5) rfl
            have HSM := Lib.hid (show smS ((x0, o0, o1, o2), f, t) = ((m, oo), fr, tz) from by
              obtain ⟨q1, q2, q3, q4⟩ := HM.out
              unfold smS smD smT
              dsimp only
              rw [HTZ.out, HOO.out, ← q1, ← q2, ← q3, ← q4])
            go_wp2_with (at_builtin; refine wpList_append_own _ rfl _ _ 45 rfl w.heap.size 50 j0 _ 6 48 Try.underlying45 hj hy0 hy1 hy2 rfl (by decide) _ _ _ rfl (S3.out.r.alloc _) ⟨wc.heap.size, 0, none⟩ 1 1 (spCells ((m, oo), fr, tz)) rfl rfl (World.news_of_block (cs := #[.int .i64 m, .int .i64 oo.1, .int .i64 oo.2.1, .int .i64 oo.2.2, .int .i64 fr, .int .i64 tz]) (t := 50) (fr := (0, 0)) (by simpa using heap_alloc_new wc _)) (by simp [Value.oneCell', spCells]) (by unfold maxLen; omega) (by omega) (by simp; omega) ?_; intro v2 we p2 g2 _)
            have RN := Lib.hid (show we.ownsRow w.heap.size 50 6 v2 (k + 1) (((l.take (k + 1)).map smS).flatMap spCells) from by
              rw [take_smS HX.out, HSM.out, List.flatMap_append]; simpa using p2)
            have BN := Lib.hid ((S3.out.below.alloc S3.out.below.size _).grown g2 (by simp; omega) (fun g e => (S3.out.r.lt g e).1))
            clear p2 g2 r0 r1 r2 r3 r4 r5
            go_roundw
            case rel => exact ⟨k + 1, by omega, by go_num, RN.out, BN.out⟩
            case measure => simp [intOf]; omega
    · obtain rfl : k = n := by omega
      have HL := Lib.hid (show (l.take k).map smS = smL l ∧ (smL l).length = k from by
        have : l.take k = l.take 6 := by
          by_cases h : k < 6
          · rw [List.take_of_length_le (hn3 h), List.take_of_length_le (by have := hn3 h; omega)]
          · rw [show k = 6 by omega]
        unfold smL
        rw [this, List.length_map, ← this, List.length_take]
        exact ⟨rfl, by omega⟩)
      have RZ := Lib.hid (show wr.ownsRow w.heap.size 50 6 (.slice ra k rk) (smL l).length ((smL l).flatMap spCells) from by rw [HL.out.2, ← HL.out.1]; exact RR.out)
      by_cases h60 : k < 6
      · have q1 : ¬ (k : Int) < (l.length : Int) := by omega
        go_wp2_with fail
        go_ret
        exact ⟨_, rfl, RZ.out, BB.out⟩
      · have q40 : ¬ (k : Int) < 6 := by omega
        by_cases q1 : (k : Int) < (l.length : Int)
        · go_wp2_with fail
          go_ret
          exact ⟨_, rfl, RZ.out, BB.out⟩
        · go_wp2_with fail
          go_ret
          exact ⟨_, rfl, RZ.out, BB.out⟩
end Go.Proofs.Ythmkmjoeceghiaa
