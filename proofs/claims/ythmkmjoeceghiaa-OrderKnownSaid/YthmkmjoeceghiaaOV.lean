/- The merge of two sorted rows of calls: one on a side. -/
import Derived.Test.YthmkmjoeceghiaaOU
import Derived.Deep.DeepCutAuto
namespace Go.Proofs.Ythmkmjoeceghiaa
open Go.RowKit

attribute [local go_sem ↓] Go.wp_at_zero Go.wp_at_succ
/-- what is asked of a merge -/
structure Pre (l : List Sp) (g cap n : Nat) (cb : Nat → Nat) (z : Nat → Value) (f : Nat → Nat) (a m b : Nat) (w : World) : Prop where
  row : RowN w g cap n cb z f
  ts : TsAt w g l cb
  hc : n ≤ cap
  hn : n ≤ 100000
  fl : ∀ j, j < n → f j < l.length
  ht : ∀ i, i < l.length → -1 ≤ (sp l i).2.2
  am : a < m
  mb : m < b
  bn : b ≤ n
  s1 : Srt l f a m
  s2 : Srt l f m b
  ls : Lss f a m b
/-- what it answers -/
def Merged (l : List Sp) (g cap n : Nat) (cb : Nat → Nat) (z : Nat → Value) (f : Nat → Nat) (a b : Nat) (w : World) (e : Ending) (w' : World) : Prop :=
  e = .returned (.tuple #[]) ∧ ∃ f', RowN w' g cap n cb z f' ∧ Rr f f' a b ∧ Srt l f' a b ∧ w.grownBy w' (some g)
theorem Pre.cmp {l : List Sp} {g cap n : Nat} {cb : Nat → Nat} {z : Nat → Value} {f : Nat → Nat} {a m b : Nat} {w : World} (P : Pre l g cap n cb z f a m b w) {W : World} (hG : w.grownBy W (some g)) {x y : Nat} (hx : x < n) (hy : y < n) :
    Calls Try.prog 55 #[.pointer (some ⟨cb (f x), 0, none⟩), .pointer (some ⟨cb (f y), 0, none⟩)] W fun e w' => e = .returned (.int .i64 (cmpI l (f x) (f y))) ∧ Below W.heap.size W w' :=
  cmp_calls (P.ts.grown hG) P.ht (P.fl x hx) (P.fl y hy)
theorem Pre.lt_iff {l : List Sp} {g cap n : Nat} {cb : Nat → Nat} {z : Nat → Value} {f : Nat → Nat} {a m b : Nat} {w : World} (P : Pre l g cap n cb z f a m b w) {x y : Nat} (hx : m ≤ x) (hxb : x < b) (hy : a ≤ y) (hym : y < m) : cmpI l (f x) (f y) < 0 ↔ before l (f x) (f y) := by
  have := P.bn
  rw [cmpI_lt P.ht (P.fl x (by omega)) (P.fl y (by omega)), before_dn (P.ls y x hy hym hx hxb)]
theorem Pre.no_iff {l : List Sp} {g cap n : Nat} {cb : Nat → Nat} {z : Nat → Value} {f : Nat → Nat} {a m b : Nat} {w : World} (P : Pre l g cap n cb z f a m b w) {x y : Nat} (hx : m ≤ x) (hxb : x < b) (hy : a ≤ y) (hym : y < m) (h : ¬ cmpI l (f x) (f y) < 0) : before l (f y) (f x) := by
  rw [P.lt_iff hx hxb hy hym] at h
  exact (before_tot (fun e => by have := P.ls y x hy hym hx hxb; omega)).resolve_right h
theorem half (i j : Nat) : ((i : Int) + j) / 2 = (((i + j) / 2 : Nat) : Int) := by omega
set_option maxRecDepth 100000 in
set_option maxHeartbeats 4000000 in
theorem merge_left (l : List Sp) (g cap n : Nat) (cb : Nat → Nat) (z : Nat → Value) (f : Nat → Nat) (a m b : Nat) (w : World) (P0 : Pre l g cap n cb z f a m b w) (h1 : m = a + 1) :
    Calls Try.prog 80 #[.slice (some ⟨g, 0, none⟩) n cap, .int .i64 a, .int .i64 m, .int .i64 b, soonerV] w (Merged l g cap n cb z f a b w) := by
  have P := Lib.hid P0
  have H1 := Lib.hid h1
  have hc := P0.hc
  have hn := P0.hn
  have ham := P0.am
  have hmb := P0.mb
  have hbn := P0.bn
  have q0 : (m : Int) - a = 1 := by omega
  clear P0 h1
  go_enter Try.func80, Try.ntmps80
  go_wp2_with fail
  clear q0
  go_loopw [10, 11] (fun iv jv wr => ∃ i j : Nat, m ≤ i ∧ i ≤ j ∧ j ≤ b ∧ iv = .int .i64 i ∧ jv = .int .i64 j ∧ (i = m ∨ before l (f (i - 1)) (f a)) ∧ (j = b ∨ before l (f a) (f j)) ∧ RowN wr g cap n cb z f ∧ w.grownBy wr (some g)) (fun iv jv _ => (intOf jv).toNat - (intOf iv).toNat)
  case atStart => exact ⟨m, b, Nat.le_refl _, by omega, Nat.le_refl _, rfl, rfl, .inl rfl, .inl rfl, P.out.row, grown_refl _ _⟩
  case round =>
    obtain ⟨i, j, hmi, hij, hjb, rfl, rfl, hbi, hbj, hR, hG⟩ := hrel
    have BI := Lib.hid hbi
    have BJ := Lib.hid hbj
    have R1 := Lib.hid hR
    have G1 := Lib.hid hG
    clear hbi hbj hR hG
    by_cases hlt : i < j
    · obtain ⟨h, hh⟩ : ∃ h, h = (i + j) / 2 := ⟨_, rfl⟩
      have hq := half i j
      rw [← hh] at hq
      have hh1 : i ≤ h := by omega
      have hh2 : h < j := by omega
      have c1 := R1.out.cell hc (j := h) (by omega)
      have c2 := R1.out.cell hc (j := a) (by omega)
      have i0 : (i : Int) < j := by omega
      have i1 : (h : Int) < n := by omega
      have i2 : (a : Int) < n := by omega
      have i3 : (0 : Int) ≤ h := by omega
      have i4 : (0 : Int) ≤ a := by omega
      have i5 : (0 : Int) ≤ (i : Int) + j := by omega
      have i6 : (i : Int) + j ≤ 200000 := by omega
      have k1 := fun d os => cell_regrown c1 d os
      have k2 := fun d os => cell_regrown c2 d os
      have hcmp := fun W (hb : Below wr.heap.size wr W) => P.out.cmp (x := h) (y := a) (grown_trans G1.out (grown_of_below hb _)) (by omega) (by omega)
      have HY := Lib.hid (P.out.lt_iff (x := h) (y := a) (by omega) (by omega) (Nat.le_refl _) ham).1
      have HN := Lib.hid (P.out.no_iff (x := h) (y := a) (by omega) (by omega) (Nat.le_refl _) ham)
      obtain ⟨r, hr⟩ : ∃ r, r = cmpI l (f h) (f a) := ⟨_, rfl⟩
      rw [← hr] at hcmp HY HN
      clear hr hh
      by_cases hrn : r < 0
      · have BB := Lib.hid (HY.out hrn)
        go_wp2_with fail
        refine wp_region_quiet_below (by kernel_rfl) (by kernel_rfl) ?_
        repeat (quiet_step (first | ((go_at_call 55; exact Calls.regrown_of (hcmp _ (below_regrown wr _ _))))))
        refine wpQuiet_nil ?_
        intro _ hw'
        obtain ⟨⟨dq, osq⟩, hw''⟩ := hw'
        subst hw''
        have hbq : Below wr.heap.size wr (Go.Sort.grow (redrawn wr dq) osq) := below_regrown wr dq osq
        dsimp only
        generalize Go.Sort.grow (redrawn wr dq) osq = wq at hbq ⊢
        clear k1 k2 hcmp c1 c2 hrn hq
        have R3 := Lib.hid (R1.out.below hbq)
        have G3 := Lib.hid (grown_trans G1.out (grown_of_below hbq _))
        clear hbq R1 G1
        go_wp2_with fail
        go_roundw
        case rel => exact ⟨h + 1, j, by omega, by omega, hjb, by go_num, rfl, .inr BB.out, BJ.out, R3.out, G3.out⟩
        case measure => simp [intOf]; omega
      · have BB := Lib.hid (HN.out hrn)
        have hrd : decide (r < 0) = false := by simpa using hrn
        go_wp2_with fail
        refine wp_region_quiet_below (by kernel_rfl) (by kernel_rfl) ?_
        repeat (quiet_step (first | ((go_at_call 55; exact Calls.regrown_of (hcmp _ (below_regrown wr _ _))))))
        refine wpQuiet_nil ?_
        intro _ hw'
        obtain ⟨⟨dq, osq⟩, hw''⟩ := hw'
        subst hw''
        have hbq : Below wr.heap.size wr (Go.Sort.grow (redrawn wr dq) osq) := below_regrown wr dq osq
        dsimp only
        generalize Go.Sort.grow (redrawn wr dq) osq = wq at hbq ⊢
        clear k1 k2 hcmp c1 c2 hrn hq hrd
        have R3 := Lib.hid (R1.out.below hbq)
        have G3 := Lib.hid (grown_trans G1.out (grown_of_below hbq _))
        clear hbq R1 G1
        go_wp2_with fail
        go_roundw
        case rel => exact ⟨i, h, hmi, by omega, by omega, rfl, rfl, BI.out, .inr BB.out, R3.out, G3.out⟩
        case measure => simp [intOf]; omega
    · obtain rfl : i = j := by omega
      have i0 : ¬ (i : Int) < i := by omega
      go_wp2_with fail
      clear i0
      go_loopw [13] (fun kv wr => ∃ k : Nat, a ≤ k ∧ k + 1 ≤ i ∧ kv = .int .i64 k ∧ RowN wr g cap n cb z (rot f a (a + 1) (k + 1)) ∧ w.grownBy wr (some g)) (fun kv _ => i - (intOf kv).toNat)
      case atStart => exact ⟨a, Nat.le_refl _, by omega, rfl, by rw [rot_one]; exact R1.out, G1.out⟩
      case round =>
        clear R1 G1
        obtain ⟨k, hak, hki, rfl, hR, hG⟩ := hrel
        have R2 := Lib.hid hR
        have G2 := Lib.hid hG
        clear hR hG
        by_cases hlk : k + 1 < i
        · have c1 := R2.out.cell hc (j := k) (by omega)
          have c2 := R2.out.cell hc (j := k + 1) (by omega)
          have f1 := R2.out.frozen k
          have f2 := R2.out.frozen (k + 1)
          have hne : k ≠ k + 1 := by omega
          have j0 : (k : Int) < (i : Int) - 1 := by omega
          have j1 : (0 : Int) ≤ (k : Int) + 1 := by omega
          have j2 : (k : Int) + 1 < n := by omega
          have j3 : ((k : Int) + 1).toNat = k + 1 := by omega
          have j4 : (k : Int) < n := by omega
          have j5 : (0 : Int) ≤ (k : Int) := by omega
          have j6 : IntKind.i64.wrap ((k : Int) + 1) = (k : Int) + 1 := IntWalk.i64_in _ (by omega)
          go_wp2_with fail
          go_region
          all_goals
            have X1 := Lib.hid (R2.out.swap (x := k) (y := k + 1) (by omega) (by omega) hne)
            have X2 := Lib.hid (R2.out.swap' (x := k) (y := k + 1) (by omega) (by omega) hne)
            have XE := Lib.hid (rot_up f a k hak)
            clear c1 c2 f1 f2 j6
            go_wp2_with fail
            go_roundw
            case rel => exact ⟨k + 1, by omega, by omega, by go_num, by first | exact RowN.congr X1.out XE.out | exact RowN.congr X2.out XE.out, grown_trans G2.out (by first | exact swp_grown _ _ _ _ _ _ | exact grown_trans (swp_grown _ _ _ _ _ _) (grown_of_below (Below.refl _ _).drew (some g)))⟩
            case measure => simp [intOf]; omega
        · have j0 : ¬ (k : Int) < (i : Int) - 1 := by omega
          have hki' : k + 1 = i := by omega
          have R4 := Lib.hid (RowN.congr R2.out (f' := rot f a (a + 1) i) (by rw [hki']))
          have m1 := H1.out
          have FIN := Lib.hid (show Rr f (rot f a (a + 1) i) a b ∧ Srt l (rot f a (a + 1) i) a b from by
            refine ⟨(Rr.rot f (by omega) (by omega)).wide (Nat.le_refl _) hjb, one_up ?_ ?_ (by omega) hjb ?_ BJ.out⟩
            · have := P.out.s2; rwa [m1] at this
            · have := P.out.ls; rwa [m1] at this
            · have := BI.out; rwa [m1] at this)
          clear hki'
          go_wp2_with fail
          go_end0
          exact ⟨rfl, _, R4.out, FIN.out.1, FIN.out.2, G2.out⟩
end Go.Proofs.Ythmkmjoeceghiaa
