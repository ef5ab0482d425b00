/- Calls that come in; trees that were grown; TreePlays. -/
import Derived.Test.YtkkjnnmjfamkjaaJ
namespace Go.Proofs.Ytkkjnnmjfamkjaa
open Go.RowKit Go.Shelf

attribute [local go_sem ↓] Go.wp_at_zero Go.wp_at_succ
/-- a call: its kind, its group -/
abbrev Dw := Int × Int
def IsDos (w : World) (a : Option Addr) (l : List Dw) : Prop := l ≠ [] → ∃ b off, a = some ⟨b, off, none⟩ ∧ ∀ (k : Nat) (c : Dw), l[k]? = some c → w.cell? ⟨b, off + k * 2, none⟩ = some (.int .i64 c.1) ∧ w.cell? ⟨b, off + k * 2 + 1, none⟩ = some (.int .i64 c.2)
theorem IsDos.below {w w' : World} {a : Option Addr} {l : List Dw} (h : IsDos w a l) (hb : Below w.heap.size w w') : IsDos w' a l := fun hne => by
  obtain ⟨b, off, ha, hc⟩ := h hne
  exact ⟨b, off, ha, fun k c hk => ⟨below_cell hb (Nat.le_refl _) (hc k c hk).1, below_cell hb (Nat.le_refl _) (hc k c hk).2⟩⟩
theorem IsDos.at {w : World} {a : Option Addr} {l : List Dw} (h : IsDos w a l) {k : Nat} (hk : k < l.length) : ∃ b off x y, a = some ⟨b, off, none⟩ ∧ l[k]? = some (x, y) ∧ w.cell? ⟨b, off + k * 2, none⟩ = some (.int .i64 x) ∧ w.cell? ⟨b, off + k * 2 + 1, none⟩ = some (.int .i64 y) := by
  obtain ⟨b, off, ha, hc⟩ := h (by intro e; rw [e] at hk; simp at hk)
  exact ⟨b, off, l[k].1, l[k].2, ha, List.getElem?_eq_getElem hk, hc k _ (List.getElem?_eq_getElem hk)⟩
def stepG (T : List Gp) (d : Dw) : List Gp := if d.1 % 4 < 3 then (addT T (d.2 % 18)).2.2 else (offT T (d.2 % 18)).2
def stepP (T : List Gp) (d : Dw) : List Gp := if d.1 % 2 = 0 then (addT T d.2).2.2 else (offT T d.2).2
def grT (l : List Dw) : List Gp := (l.take 60).foldl stepG newT
theorem stepG_add {T : List Gp} {x y : Int} (h : x % 4 < 3) : stepG T (x, y) = (addT T (y % 18)).2.2 := by simp [stepG, h]
theorem stepG_off {T : List Gp} {x y : Int} (h : ¬ x % 4 < 3) : stepG T (x, y) = (offT T (y % 18)).2 := by simp [stepG, h]
theorem fold_succ {f : List Gp → Dw → List Gp} {l : List Dw} {k : Nat} {x : Dw} (h : l[k]? = some x) : (l.take (k + 1)).foldl f newT = f ((l.take k).foldl f newT) x := by
  rw [take_succ h, List.foldl_append]; rfl
set_option maxRecDepth 100000 in
set_option maxHeartbeats 1000000 in
theorem grown_any (l : List Dw) (a : Option Addr) (cap : Nat) (w : World) (hI : IsDos w a l) (hlen : l.length ≤ 9223372036854775807) :
    Calls Try.prog 17 #[.slice a l.length cap] w fun e w' => ∃ B, e = .returned (.pointer (some ⟨B, 0, none⟩)) ∧ Tr w' w.heap.size B (grT l) ∧ Below w.heap.size w w' := by
  have II := Lib.hid hI
  clear hI
  go_enter Try.func17, Try.ntmps17
  go_wp2_with fail
  refine (new_any w w.heap.size (Nat.le_refl _)).mono ?_
  rintro e w1 ⟨B, rfl, hT, hb⟩
  have TT := Lib.hid hT
  have BB := Lib.hid hb
  clear hT hb
  go_wp2_with fail
  go_loopw [4] (fun iv wr => ∃ k : Nat, k ≤ l.length ∧ k ≤ 60 ∧ iv = .int .i64 k ∧ Tr wr w.heap.size B ((l.take k).foldl stepG newT) ∧ Below w.heap.size w wr) (fun iv _ => 60 - (intOf iv).toNat)
  case atStart => exact ⟨0, by omega, by omega, rfl, TT.out, BB.out⟩
  case round =>
    obtain ⟨k, hk1, hk2, rfl, hT, hB⟩ := hrel
    rename_i wr
    clear TT BB
    have TT := Lib.hid hT
    have BB := Lib.hid hB
    have hJ := II.out.below hB
    clear hT hB
    by_cases hlt : k < l.length
    · by_cases h60 : k < 60
      · obtain ⟨b, off, x, y, rfl, hx, c0, c1⟩ := hJ.at hlt
        have hb18 : 0 ≤ y % 18 ∧ y % 18 < 18 := ⟨by omega, by omega⟩
        clear hJ
        by_cases h4 : x % 4 < 3
        · have HF := Lib.hid ((fold_succ (f := stepG) hx).trans (stepG_add h4))
          clear hx
          go_wp2_with fail
          refine (bring_any x 4 _ (by omega) (by omega)).mono ?_
          rintro e wz ⟨rfl, rfl⟩
          go_wp2_with fail
          refine (bring_any y 18 _ (by omega) (by omega)).mono ?_
          rintro e wz ⟨rfl, rfl⟩
          go_wp2_with fail
          refine (add_any _ _ _ _ _ TT.out).mono ?_
          rintro e wz ⟨rfl, hT, hS⟩
          have T2 := Lib.hid hT
          have B2 := Lib.hid (BB.out.trans hS.b)
          clear hT hS
          go_wp2_with fail
          go_roundw
          case rel => exact ⟨k + 1, by omega, by omega, by go_num, by rw [HF.out]; exact T2.out, B2.out⟩
          case measure => simp [intOf]; omega
        · have HF := Lib.hid ((fold_succ (f := stepG) hx).trans (stepG_off h4))
          clear hx
          go_wp2_with fail
          refine (bring_any x 4 _ (by omega) (by omega)).mono ?_
          rintro e wz ⟨rfl, rfl⟩
          go_wp2_with fail
          refine (bring_any y 18 _ (by omega) (by omega)).mono ?_
          rintro e wz ⟨rfl, rfl⟩
          go_wp2_with fail
          refine (off_any _ _ _ _ _ TT.out).mono ?_
          rintro e wz ⟨rfl, hT, hS⟩
          have T2 := Lib.hid hT
          have B2 := Lib.hid (BB.out.trans hS.b)
          clear hT hS
          go_wp2_with fail
          go_roundw
          case rel => exact ⟨k + 1, by omega, by omega, by go_num, by rw [HF.out]; exact T2.out, B2.out⟩
          case measure => simp [intOf]; omega
      · obtain rfl : k = 60 := by omega
        clear hJ
        go_wp2_with fail
        go_ret
        exact ⟨B, rfl, TT.out, BB.out⟩
    · have HE := Lib.hid (show grT l = (l.take k).foldl stepG newT by unfold grT; rw [List.take_of_length_le (by omega), List.take_of_length_le (by omega)])
      clear hJ
      go_wp2_with fail
      go_ret
      exact ⟨B, rfl, by rw [HE.out]; exact TT.out, BB.out⟩
theorem radd_at {w : World} {base R : Nat} {T : List Gp} {T' : List Gp} {a e : Int} (h : Rf w base R T) {p : Int} (hp : IsI p) (he : addT T p = (a, e, T')) : Calls Try.prog 12 #[.pointer (some ⟨R, 0, none⟩), .int .i64 p] w fun e' w' => e' = .returned (.tuple #[.int .i64 a, .int .i64 e]) ∧ Rf w' base R T' ∧ Step [54, 3, 4] base w w' := by
  have := radd_any w base R T p h hp; rwa [he] at this
theorem roff_at {w : World} {base R : Nat} {T : List Gp} {T' : List Gp} {e : Int} (h : Rf w base R T) {p : Int} (he : offT T p = (e, T')) : Calls Try.prog 14 #[.pointer (some ⟨R, 0, none⟩), .int .i64 p] w fun e' w' => e' = .returned (.int .i64 e) ∧ Rf w' base R T' ∧ Step [54, 3, 4] base w w' := by
  have := roff_any w base R T p h; rwa [he] at this
theorem stepP_add {T : List Gp} {x y : Int} (h : x % 2 = 0) : stepP T (x, y) = (addT T y).2.2 := by simp [stepP, h]
theorem stepP_off {T : List Gp} {x y : Int} (h : ¬ x % 2 = 0) : stepP T (x, y) = (offT T y).2 := by simp [stepP, h]
theorem Tr.drew {w : World} {base B : Nat} {T : List Gp} (h : Tr w base B T) : Tr w.drew base B T := h.below (Below.refl _ _).drew
theorem Rf.drew {w : World} {base R : Nat} {T : List Gp} (h : Rf w base R T) : Rf w.drew base R T := h.below (Below.refl _ _).drew
set_option maxRecDepth 100000 in
set_option maxHeartbeats 1000000 in
theorem plays_any (l : List Dw) (a : Option Addr) (cap : Nat) (w : World) (hI : IsDos w a l) (hlen : l.length ≤ 9223372036854775807) (hwf : ∀ d ∈ l, IsI d.2) :
    Calls Try.prog 3 #[.slice a l.length cap] w fun e w' => e = .returned (.bool true) ∧ Below w.heap.size w w' := by
  have II := Lib.hid hI
  have WF := Lib.hid hwf
  clear hI hwf
  go_enter Try.func3, Try.ntmps3
  go_wp2_with fail
  refine (new_any w w.heap.size (Nat.le_refl _)).mono ?_
  rintro e w1 ⟨B, rfl, hT, hb⟩
  have TT := Lib.hid hT
  have BB := Lib.hid hb
  clear hT hb
  go_wp2_with fail
  refine (rnew_any w1 w.heap.size BB.out.size).mono ?_
  rintro e w2 ⟨R, rfl, hR, hb⟩
  have RR := Lib.hid hR
  replace TT := Lib.hid (TT.out.below hb)
  replace BB := Lib.hid (on BB.out hb)
  clear hR hb
  go_wp2_with fail
  go_loopw [5] (fun iv wr => ∃ k : Nat, k ≤ l.length ∧ k ≤ 60 ∧ iv = .int .i64 k ∧ Tr wr w.heap.size B ((l.take k).foldl stepP newT) ∧ Rf wr w.heap.size R ((l.take k).foldl stepP newT) ∧ Below w.heap.size w wr) (fun iv _ => 60 - (intOf iv).toNat)
  case atStart => exact ⟨0, by omega, by omega, rfl, TT.out, RR.out, BB.out⟩
  case round =>
    obtain ⟨k, hk1, hk2, rfl, hT, hR, hB⟩ := hrel
    rename_i wr
    clear TT BB RR
    obtain ⟨T, hTe⟩ : ∃ T, (l.take k).foldl stepP newT = T := ⟨_, rfl⟩
    have HTe := Lib.hid hTe
    rw [hTe] at hT hR
    have TT := Lib.hid hT
    have RR := Lib.hid hR
    have BB := Lib.hid hB
    have hJ := II.out.below hB
    clear hT hB hR hTe
    by_cases hlt : k < l.length
    · by_cases h60 : k < 60
      · obtain ⟨b, off, x, y, rfl, hx, c0, c1⟩ := II.out.at hlt
        have HC := Lib.hid (And.intro c0 c1)
        have hy := Lib.hid (WF.out (x, y) (List.mem_of_getElem? hx))
        have d0 := below_cell BB.out (Nat.le_refl _) c0
        have d1 := below_cell BB.out (Nat.le_refl _) c1
        clear hJ c0 c1
        by_cases h2 : x % 2 = 0
        · have HF := Lib.hid ((fold_succ (f := stepP) hx).trans (show stepP _ (x, y) = (addT T y).2.2 by rw [HTe.out]; exact stepP_add h2))
          have hb2 : (x % 2 == 0) = true := by simpa using h2
          clear hx h2
          obtain ⟨⟨ra, re, T'⟩, hAT⟩ : ∃ z, addT T y = z := ⟨_, rfl⟩
          have HA := Lib.hid hAT
          rw [hAT] at HF
          clear hAT
          go_wp2_with fail
          refine (bring_any x 2 _ (by omega) (by omega)).mono ?_
          rintro e wz ⟨rfl, rfl⟩
          go_wp2_with fail
          refine (add_at TT.out HA.out).mono ?_
          rintro e wz ⟨rfl, hT, hS⟩
          have T2 := Lib.hid hT
          have R2 := Lib.hid (RR.out.keep hS.k (by decide) (by decide) (by decide))
          have B2 := Lib.hid (BB.out.trans hS.b)
          clear hT hS d0 d1
          have d1 := below_cell B2.out (Nat.le_refl _) HC.out.2
          go_wp2_with fail
          refine (radd_at R2.out hy.out HA.out).mono ?_
          rintro e wz ⟨rfl, hT, hS⟩
          have R3 := Lib.hid hT
          have T3 := Lib.hid (T2.out.keep hS.k (by decide) (by decide))
          have B3 := Lib.hid (B2.out.trans hS.b)
          clear hT hS d1
          go_wp2_with fail
          go_roundw
          case rel => exact ⟨k + 1, by omega, by omega, by go_num, by rw [HF.out]; exact T3.out, by rw [HF.out]; exact R3.out, B3.out⟩
          case measure => simp [intOf]; omega
        · have HF := Lib.hid ((fold_succ (f := stepP) hx).trans (show stepP _ (x, y) = (offT T y).2 by rw [HTe.out]; exact stepP_off h2))
          have hb2 : (x % 2 == 0) = false := by simpa using h2
          clear hx h2
          obtain ⟨⟨re, T'⟩, hAT⟩ : ∃ z, offT T y = z := ⟨_, rfl⟩
          have HA := Lib.hid hAT
          rw [hAT] at HF
          clear hAT
          have HI0 : (0 : Int) ≤ (k : Int) := by omega
          have HI1 : (k : Int) < (l.length : Int) := by omega
          go_wp2_with fail
          refine (bring_any x 2 _ (by omega) (by omega)).mono ?_
          rintro e wz ⟨rfl, rfl⟩
          go_wp2_with fail
          have hHB : (fun w' : World => w'.cell? ⟨b, off + k * 2 + 1, none⟩ = some (.int .i64 y)) wr.drew := d1
          refine till_start 14 (fun w' : World => w'.cell? ⟨b, off + k * 2 + 1, none⟩ = some (.int .i64 y)) (by kernel_rfl) ?_
          refine till_take (i := 0) (v := ?_) rfl (by kernel_rfl) (by kernel_rfl) (by kernel_rfl) (by kernel_rfl) (fun _ _ _ h => h) (Or.inl ⟨by rfl, ?_⟩) hHB ?_
          rotate_left
          · (intro w hSw; (try dsimp only at hSw); go_simp; try with_reducible rfl)
          try simp only [Act.put, List.setIfInBounds_toArray, List.set_cons_zero, List.set_cons_succ]
          refine till_take (i := 1) (v := ?_) rfl (by kernel_rfl) (by kernel_rfl) (by kernel_rfl) (by kernel_rfl) (fun _ _ _ h => h) (Or.inl ⟨by rfl, ?_⟩) hHB ?_
          rotate_left
          · (intro w hSw; (try dsimp only at hSw); go_simp; try with_reducible rfl)
          try simp only [Act.put, List.setIfInBounds_toArray, List.set_cons_zero, List.set_cons_succ]
          refine till_take (i := 2) (v := ?_) rfl (by kernel_rfl) (by kernel_rfl) (by kernel_rfl) (by kernel_rfl) (fun _ _ _ h => h) (Or.inl ⟨by rfl, ?_⟩) hHB ?_
          rotate_left
          · (intro w hSw; (try dsimp only at hSw); go_simp; try with_reducible rfl)
          try simp only [Act.put, List.setIfInBounds_toArray, List.set_cons_zero, List.set_cons_succ]
          refine till_take (i := 3) (v := ?_) rfl (by kernel_rfl) (by kernel_rfl) (by kernel_rfl) (by kernel_rfl) (fun _ _ _ h => h) (Or.inl ⟨by rfl, ?_⟩) hHB ?_
          rotate_left
          · (intro w hSw; (try dsimp only at hSw); go_simp; try with_reducible rfl)
          try simp only [Act.put, List.setIfInBounds_toArray, List.set_cons_zero, List.set_cons_succ]
          refine till_take (i := 4) (v := ?_) rfl (by kernel_rfl) (by kernel_rfl) (by kernel_rfl) (by kernel_rfl) (fun _ _ _ h => h) (Or.inl ⟨by rfl, ?_⟩) hHB ?_
          rotate_left
          · (intro w hSw; (try dsimp only at hSw); go_simp; try with_reducible rfl)
          try simp only [Act.put, List.setIfInBounds_toArray, List.set_cons_zero, List.set_cons_succ]
          refine till_take (i := 5) (v := ?_) rfl (by kernel_rfl) (by kernel_rfl) (by kernel_rfl) (by kernel_rfl) (fun _ _ _ h => h) (Or.inl ⟨by rfl, ?_⟩) hHB ?_
          rotate_left
          · (intro w hSw; (try dsimp only at hSw); go_simp; try with_reducible rfl)
          try simp only [Act.put, List.setIfInBounds_toArray, List.set_cons_zero, List.set_cons_succ]
          refine till_take (i := 7) (v := ?_) rfl (by kernel_rfl) (by kernel_rfl) (by kernel_rfl) (by kernel_rfl) (fun _ _ _ h => h) (Or.inl ⟨by rfl, ?_⟩) hHB ?_
          rotate_left
          · (intro w hSw; (try dsimp only at hSw); go_simp; try with_reducible rfl)
          try simp only [Act.put, List.setIfInBounds_toArray, List.set_cons_zero, List.set_cons_succ]
          refine till_take (i := 8) (v := ?_) rfl (by kernel_rfl) (by kernel_rfl) (by kernel_rfl) (by kernel_rfl) (fun _ _ _ h => h) (Or.inl ⟨by rfl, ?_⟩) hHB ?_
          rotate_left
          · (intro w hSw; (try dsimp only at hSw); go_simp; try with_reducible rfl)
          try simp only [Act.put, List.setIfInBounds_toArray, List.set_cons_zero, List.set_cons_succ]
          refine till_take (i := 9) (v := ?_) rfl (by kernel_rfl) (by kernel_rfl) (by kernel_rfl) (by kernel_rfl) (fun _ _ _ h => h) (Or.inl ⟨by rfl, ?_⟩) hHB ?_
          rotate_left
          · (intro w hSw; (try dsimp only at hSw); go_simp; try with_reducible rfl)
          try simp only [Act.put, List.setIfInBounds_toArray, List.set_cons_zero, List.set_cons_succ]
          refine till_take (i := 10) (v := ?_) rfl (by kernel_rfl) (by kernel_rfl) (by kernel_rfl) (by kernel_rfl) (fun _ _ _ h => h) (Or.inl ⟨by rfl, ?_⟩) hHB ?_
          rotate_left
          · (intro w hSw; (try dsimp only at hSw); go_simp; try with_reducible rfl)
          try simp only [Act.put, List.setIfInBounds_toArray, List.set_cons_zero, List.set_cons_succ]
          refine till_take (i := 11) (v := ?_) rfl (by kernel_rfl) (by kernel_rfl) (by kernel_rfl) (by kernel_rfl) (fun _ _ _ h => h) (Or.inl ⟨by rfl, ?_⟩) hHB ?_
          rotate_left
          · (intro w hSw; (try dsimp only at hSw); go_simp; try with_reducible rfl)
          try simp only [Act.put, List.setIfInBounds_toArray, List.set_cons_zero, List.set_cons_succ]
          refine till_take (i := 12) (v := ?_) rfl (by kernel_rfl) (by kernel_rfl) (by kernel_rfl) (by kernel_rfl) (fun _ _ _ h => h) (Or.inl ⟨by rfl, ?_⟩) hHB ?_
          rotate_left
          · (intro w hSw; (try dsimp only at hSw); go_simp; try with_reducible rfl)
          try simp only [Act.put, List.setIfInBounds_toArray, List.set_cons_zero, List.set_cons_succ]
          refine till_one (i := 6) (by kernel_rfl) rfl (fun K hK => ?_)
          try go_wp2_with fail
          refine (off_at TT.out.drew HA.out).mono ?_
          rintro e wz ⟨rfl, hT, hS⟩
          have T2 := Lib.hid hT
          have R2 := Lib.hid (RR.out.drew.keep hS.k (by decide) (by decide) (by decide))
          have B2 := Lib.hid (BB.out.drew.trans hS.b)
          clear hT hS d0 d1 hHB
          have hHB : (fun w' : World => w'.cell? ⟨b, off + k * 2 + 1, none⟩ = some (.int .i64 y)) wz := below_cell B2.out (Nat.le_refl _) HC.out.2
          try go_wp2_with fail
          refine hK.out _ _ (fun _ => hHB) ?_
          clear hK K hHB
          try simp only [Act.put, List.setIfInBounds_toArray, List.set_cons_zero, List.set_cons_succ]
          refine till_one (i := 13) (by kernel_rfl) rfl (fun K hK => ?_)
          go_simp
          refine (roff_at R2.out HA.out).mono ?_
          rintro e wy ⟨rfl, hT, hS⟩
          have R3 := Lib.hid hT
          have T3 := Lib.hid (T2.out.keep hS.k (by decide) (by decide))
          have B3 := Lib.hid (B2.out.trans hS.b)
          clear hT hS
          have hHB : (fun w' : World => w'.cell? ⟨b, off + k * 2 + 1, none⟩ = some (.int .i64 y)) wy := below_cell B3.out (Nat.le_refl _) HC.out.2
          try go_wp2_with fail
          refine hK.out _ _ (fun _ => hHB) ?_
          clear hK K
          try simp only [Act.put, List.setIfInBounds_toArray, List.set_cons_zero, List.set_cons_succ]
          refine till_one (i := 14) (by kernel_rfl) rfl (fun K hK => ?_)
          go_simp
          refine hK.out _ _ (fun _ => hHB) ?_
          clear hK K hHB
          try simp only [Act.put, List.setIfInBounds_toArray, List.set_cons_zero, List.set_cons_succ]
          refine till_done (by kernel_rfl) ?_ _
          go_wp2_with fail
          go_roundw
          case rel => exact ⟨k + 1, by omega, by omega, by go_num, by rw [HF.out]; exact T3.out, by rw [HF.out]; exact R3.out, B3.out⟩
          case measure => simp [intOf]; omega
      · obtain rfl : k = 60 := by omega
        clear hJ
        go_wp2_with fail
        refine (same_any _ _ _ _ _ _ TT.out RR.out).mono ?_
        rintro e wz ⟨rfl, hb⟩
        replace BB := Lib.hid (on BB.out hb)
        clear hb
        go_wp2_with fail
        refine (works_any _).mono ?_
        rintro e wz ⟨rfl, hb⟩
        replace BB := Lib.hid (on BB.out hb)
        clear hb
        go_wp2_with fail
        go_ret
        exact ⟨rfl, BB.out⟩
    · clear hJ
      go_wp2_with fail
      refine (same_any _ _ _ _ _ _ TT.out RR.out).mono ?_
      rintro e wz ⟨rfl, hb⟩
      replace BB := Lib.hid (on BB.out hb)
      clear hb
      go_wp2_with fail
      refine (works_any _).mono ?_
      rintro e wz ⟨rfl, hb⟩
      replace BB := Lib.hid (on BB.out hb)
      clear hb
      go_wp2_with fail
      go_ret
      exact ⟨rfl, BB.out⟩
end Go.Proofs.Ytkkjnnmjfamkjaa
