/- The walks over a stable sort of calls: the comparison, exchanges. -/
import Derived.Test.YthmkmjoeceghiaaOA
import Derived.Test.YthmkmjoeceghiaaPZ
import Derived.BigRegion
namespace Go.Proofs.Ythmkmjoeceghiaa
open Go.RowKit

attribute [local go_sem ↓] Go.wp_at_zero Go.wp_at_succ
/-- call i's address -/
def pv (cb : Nat → Nat) (i : Nat) : Value := .pointer (some ⟨cb i, 0, none⟩)
/-- block g is a row of calls: n of them f tells -/
def RowN (w : World) (g cap n : Nat) (cb : Nat → Nat) (z : Nat → Value) (f : Nat → Nat) : Prop := w.rowIs g 78 cap (fun j => if j < n then .pointer (some ⟨cb (f j), 0, none⟩) else z j)
section
variable {w w' : World} {g cap n : Nat} {cb : Nat → Nat} {z : Nat → Value} {f : Nat → Nat}
theorem RowN.lt (h : RowN w g cap n cb z f) : g < w.heap.size := World.rowIs.lt h
theorem RowN.cell (h : RowN w g cap n cb z f) (hc : n ≤ cap) {j : Nat} (hj : j < n) : w.cell? ⟨g, j, none⟩ = some (.pointer (some ⟨cb (f j), 0, none⟩)) := by
  have := World.rowIs.cell h (i := j) (by omega)
  simpa [hj] using this
theorem RowN.frozen (h : RowN w g cap n cb z f) (j : Nat) : w.frozen? ⟨g, j, none⟩ = false := World.rowIs.frozen h j
theorem RowN.below (h : RowN w g cap n cb z f) (hb : Below w.heap.size w w') : RowN w' g cap n cb z f := World.rowIs.of_block h (hb.block _ h.lt)
theorem RowN.congr {f' : Nat → Nat} (h : RowN w g cap n cb z f) (e : f = f') : RowN w g cap n cb z f' := e ▸ h
theorem RowN.swap (h : RowN w g cap n cb z f) {x y : Nat} (hx : x < n) (hy : y < n) (hxy : x ≠ y) :
    RowN ((w.setCell ⟨g, x, none⟩ (.pointer (some ⟨cb (f y), 0, none⟩))).setCell ⟨g, y, none⟩ (.pointer (some ⟨cb (f x), 0, none⟩))) g cap n cb z (swp f x y) := by
  refine World.rowIs.congr (World.rowIs.set (World.rowIs.set h x _) y _) (fun j hj => ?_)
  unfold swp
  by_cases e1 : j = y
  · subst e1; simp [hy, Ne.symm hxy]
  · by_cases e2 : j = x
    · subst e2; simp [hx, e1]
    · simp [e1, e2]
theorem RowN.swap' (h : RowN w g cap n cb z f) {x y : Nat} (hx : x < n) (hy : y < n) (hxy : x ≠ y) :
    RowN ((w.setCell ⟨g, y, none⟩ (.pointer (some ⟨cb (f x), 0, none⟩))).setCell ⟨g, x, none⟩ (.pointer (some ⟨cb (f y), 0, none⟩))) g cap n cb z (swp f x y) := by
  have := h.swap hy hx (Ne.symm hxy)
  refine this.congr ?_
  funext p; unfold swp
  by_cases e1 : p = x
  · subst e1; simp [hxy]
  · simp [e1]
end
/-- where the calls end: block cb i tells it of call i -/
def TsAt (w : World) (g : Nat) (l : List Sp) (cb : Nat → Nat) : Prop := ∀ i, i < l.length → w.cell? ⟨cb i, 5, none⟩ = some (.int .i64 (sp l i).2.2) ∧ cb i ≠ g
theorem TsAt.grown {w w' : World} {g : Nat} {l : List Sp} {cb : Nat → Nat} (h : TsAt w g l cb) (hg : w.grownBy w' (some g)) : TsAt w' g l cb := fun i hi => by
  obtain ⟨h1, h2⟩ := h i hi
  have hl := World.block_lt_of_cell? w _ h1
  exact ⟨(World.cell?_of_block (w := w) (a := ⟨cb i, 5, none⟩) (hg.block (cb i) hl (by simpa using h2))).trans h1, h2⟩
def snr (a b : Int) : Int := if a = b then 0 else if b < 0 ∨ (0 ≤ a ∧ a < b) then -1 else 1
theorem snr_lt {a b : Sp} (ha : -1 ≤ a.2.2) (hb : -1 ≤ b.2.2) : snr a.2.2 b.2.2 < 0 ↔ soon a b = true := by
  rw [soon_iff]
  unfold snr
  split
  · omega
  · split <;> omega
set_option maxRecDepth 100000 in
set_option maxHeartbeats 1000000 in
theorem sooner_at (p q : Nat) (a b : Int) (w : World) (ha : -1 ≤ a) (hp : w.cell? ⟨p, 5, none⟩ = some (.int .i64 a)) (hq : w.cell? ⟨q, 5, none⟩ = some (.int .i64 b)) :
    Calls Try.prog 55 #[.pointer (some ⟨p, 0, none⟩), .pointer (some ⟨q, 0, none⟩)] w fun e w' => e = .returned (.int .i64 (snr a b)) ∧ Below w.heap.size w w' := by
  by_cases h1 : a = b
  · have e1 : (a == b) = true := by simpa using h1
    have hS := Lib.hid (show snr a b = 0 by simp [snr, h1])
    clear h1
    go_enter Try.func55, Try.ntmps55
    go_wp2_with fail
    go_quiet (fail)
    go_wp2_with fail
    go_ret
    exact ⟨ret1 hS.out.symm, below_drewN (Below.refl _ _) _⟩
  · have e1 : (a == b) = false := by simpa using h1
    by_cases h2 : b < 0
    · have hS := Lib.hid (show snr a b = -1 by simp [snr, h1, h2])
      clear h1
      go_enter Try.func55, Try.ntmps55
      go_wp2_with fail
      go_quiet (fail)
      go_wp2_with fail
      go_quiet (fail)
      go_wp2_with fail
      go_ret
      exact ⟨ret1 hS.out.symm, below_drewN (below_drewN (Below.refl _ _) _) _⟩
    · have h2' : decide (b < 0) = false := by simpa using h2
      by_cases h3 : 0 ≤ a
      · by_cases h4 : a < b
        · have hS := Lib.hid (show snr a b = -1 by simp [snr, h1, h2, h3, h4])
          clear h1
          go_enter Try.func55, Try.ntmps55
          go_wp2_with fail
          go_quiet (fail)
          go_wp2_with fail
          go_quiet (fail)
          go_wp2_with fail
          go_ret
          exact ⟨ret1 hS.out.symm, below_drewN (below_drewN (Below.refl _ _) _) _⟩
        · have hS := Lib.hid (show snr a b = 1 by simp [snr, h1, h2, h3, h4])
          clear h1
          go_enter Try.func55, Try.ntmps55
          go_wp2_with fail
          go_quiet (fail)
          go_wp2_with fail
          go_quiet (fail)
          go_wp2_with fail
          go_ret
          exact ⟨ret1 hS.out.symm, below_drewN (below_drewN (Below.refl _ _) _) _⟩
      · obtain rfl : a = -1 := by omega
        have hS := Lib.hid (show snr (-1) b = 1 by simp [snr, h1, h2])
        clear h1 h3 ha
        go_enter Try.func55, Try.ntmps55
        go_wp2_with fail
        go_quiet (fail)
        go_wp2_with fail
        go_quiet (fail)
        go_wp2_with fail
        go_ret
        exact ⟨ret1 hS.out.symm, below_drewN (below_drewN (Below.refl _ _) _) _⟩
theorem swp_grown (w : World) (g x y : Nat) (u v : Value) : w.grownBy ((w.setCell ⟨g, x, none⟩ u).setCell ⟨g, y, none⟩ v) (some g) := grown_trans (set_grown w g x u) (set_grown _ g y v)
theorem grown_refl (w : World) (r : Option Nat) : w.grownBy w r := ⟨rfl, rfl, rfl, Nat.le_refl _, fun _ _ _ => rfl⟩
set_option maxRecDepth 100000 in
set_option maxHeartbeats 1000000 in
theorem swaprange_any (g cap n : Nat) (cb : Nat → Nat) (z : Nat → Value) (f : Nat → Nat) (cmp : Value) (a b k : Nat) (w : World) (hR : RowN w g cap n cb z f) (hc : n ≤ cap) (hn : n ≤ 100000) (h1 : a + k ≤ b) (h2 : b + k ≤ n) :
    Calls Try.prog 97 #[.slice (some ⟨g, 0, none⟩) n cap, .int .i64 a, .int .i64 b, .int .i64 k, cmp] w fun e w' => e = .returned (.tuple #[]) ∧ RowN w' g cap n cb z (swR f a b k) ∧ w.grownBy w' (some g) := by
  have R0 := Lib.hid hR
  clear hR
  go_enter Try.func97, Try.ntmps97
  go_wp2_with fail
  go_loopw [10] (fun iv wr => ∃ i : Nat, i ≤ k ∧ iv = .int .i64 i ∧ RowN wr g cap n cb z (swR f a b i) ∧ w.grownBy wr (some g)) (fun iv _ => k - (intOf iv).toNat)
  case atStart => exact ⟨0, Nat.zero_le _, rfl, by rw [swR_zero]; exact R0.out, grown_refl _ _⟩
  case round =>
    obtain ⟨i, hi, rfl, hR, hG⟩ := hrel
    have R1 := Lib.hid hR
    have G1 := Lib.hid hG
    clear hR hG
    by_cases hlt : i < k
    · have p0 : (0 : Int) ≤ (a : Int) + i := by omega
      have p1 : (a : Int) + i < n := by omega
      have p2 : (0 : Int) ≤ (b : Int) + i := by omega
      have p3 : (b : Int) + i < n := by omega
      have p4 : ((a : Int) + i).toNat = a + i := by omega
      have p5 : ((b : Int) + i).toNat = b + i := by omega
      have c1 := R1.out.cell hc (j := a + i) (by omega)
      have c2 := R1.out.cell hc (j := b + i) (by omega)
      have f1 := R1.out.frozen (a + i)
      have f2 := R1.out.frozen (b + i)
      have hne : a + i ≠ b + i := by omega
      go_wp2_with fail
      go_region
      all_goals
        have X1 := Lib.hid (R1.out.swap (x := a + i) (y := b + i) (by omega) (by omega) hne)
        have X2 := Lib.hid (R1.out.swap' (x := a + i) (y := b + i) (by omega) (by omega) hne)
        have XE := Lib.hid (swR_succ f a b i (by omega))
        clear c1 c2 f1 f2
        go_wp2_with fail
        go_roundw
        case rel => exact ⟨i + 1, by omega, by go_num, by first | exact RowN.congr X1.out XE.out | exact RowN.congr X2.out XE.out, grown_trans G1.out (by first | exact swp_grown _ _ _ _ _ _ | exact grown_trans (swp_grown _ _ _ _ _ _) (grown_of_below (Below.refl _ _).drew (some g)))⟩
        case measure => simp [intOf]; omega
    · obtain rfl : i = k := by omega
      go_wp2_with fail
      go_end0
      exact ⟨rfl, R1.out, G1.out⟩
set_option maxRecDepth 100000 in
set_option maxHeartbeats 1000000 in
theorem rotate_any (g cap n : Nat) (cb : Nat → Nat) (z : Nat → Value) (f : Nat → Nat) (cmp : Value) (a m b : Nat) (w : World) (hR : RowN w g cap n cb z f) (hc : n ≤ cap) (hn : n ≤ 100000) (h1 : a < m) (h2 : m < b) (h3 : b ≤ n) :
    Calls Try.prog 91 #[.slice (some ⟨g, 0, none⟩) n cap, .int .i64 a, .int .i64 m, .int .i64 b, cmp] w fun e w' => e = .returned (.tuple #[]) ∧ RowN w' g cap n cb z (rot f a m b) ∧ w.grownBy w' (some g) := by
  have R0 := Lib.hid (show ∃ f0, f0 = f ∧ RowN w g cap n cb z f0 from ⟨f, rfl, hR⟩)
  clear hR
  have q0 : ((m : Int) - a) = ((m - a : Nat) : Int) := by omega
  have q1 : ((b : Int) - m) = ((b - m : Nat) : Int) := by omega
  go_enter Try.func91, Try.ntmps91
  go_wp2_with fail
  try rw [q0, q1]
  clear q0 q1
  go_loopw [10, 11] (fun iv jv wr => ∃ (i j : Nat) (f' : Nat → Nat), 0 < i ∧ 0 < j ∧ i ≤ m ∧ m + j ≤ n ∧ iv = .int .i64 i ∧ jv = .int .i64 j ∧ RowN wr g cap n cb z f' ∧ rot f' (m - i) m (m + j) = rot f a m b ∧ w.grownBy wr (some g)) (fun iv jv _ => (intOf iv).toNat + (intOf jv).toNat)
  case atStart =>
    obtain ⟨f0, rfl, h0⟩ := R0.out
    exact ⟨m - a, b - m, f0, by omega, by omega, by omega, by omega, rfl, rfl, h0, by rw [show m - (m - a) = a by omega, show m + (b - m) = b by omega], grown_refl _ _⟩
  case round =>
    obtain ⟨i, j, f', hi, hj, him, hjn, rfl, rfl, hR, hr, hG⟩ := hrel
    have R1 := Lib.hid hR
    have G1 := Lib.hid hG
    have HR := Lib.hid hr
    clear hR hG hr R0
    by_cases hij : i = j
    · subst hij
      have e1 : ((i : Int) != i) = false := by simp
      have q0 : ((m : Int) - i) = ((m - i : Nat) : Int) := by omega
      have RQ := Lib.hid ((rot_eq f' m i him).trans HR.out)
      clear HR
      go_wp2_with fail
      try rw [q0]
      clear q0
      refine (swaprange_any g cap n cb z f' cmp (m - i) m i wr R1.out hc hn (by omega) (by omega)).mono ?_
      rintro e w1 ⟨rfl, hR1, hG1⟩
      have R2 := Lib.hid (RowN.congr hR1 RQ.out)
      have G2 := Lib.hid (grown_trans G1.out hG1)
      clear hR1 hG1
      go_wp2_with fail
      go_end0
      exact ⟨rfl, R2.out, G2.out⟩
    · have e1 : ((i : Int) != j) = true := by simp; omega
      by_cases hlt : j < i
      · have q0 : ((m : Int) - i) = ((m - i : Nat) : Int) := by omega
        have q2 : (j : Int) < i := by omega
        have RQ := Lib.hid ((rot_gt f' m i j hlt him).trans HR.out)
        clear hij HR
        go_wp2_with fail
        try rw [q0]
        clear q0
        refine (swaprange_any g cap n cb z f' cmp (m - i) m j wr R1.out hc hn (by omega) (by omega)).mono ?_
        rintro e w1 ⟨rfl, hR1, hG1⟩
        have R2 := Lib.hid hR1
        have G2 := Lib.hid (grown_trans G1.out hG1)
        clear hR1 hG1
        go_wp2_with fail
        go_roundw
        case rel => exact ⟨i - j, j, _, by omega, hj, by omega, hjn, (by congr 1; omega), rfl, R2.out, RQ.out, G2.out⟩
        case measure => simp [intOf]; omega
      · have q0 : ((m : Int) - i) = ((m - i : Nat) : Int) := by omega
        have q2 : ¬ (j : Int) < i := by omega
        have q3 : ((m : Int) + j) - i = ((m + j - i : Nat) : Int) := by omega
        have hij2 : i < j := by omega
        have RQ := Lib.hid ((rot_lt f' m i j (by omega) him).trans HR.out)
        clear hij HR
        go_wp2_with fail
        try rw [q0, q3]
        clear q0 q3
        refine (swaprange_any g cap n cb z f' cmp (m - i) (m + j - i) i wr R1.out hc hn (by omega) (by omega)).mono ?_
        rintro e w1 ⟨rfl, hR1, hG1⟩
        have R2 := Lib.hid hR1
        have G2 := Lib.hid (grown_trans G1.out hG1)
        clear hR1 hG1
        go_wp2_with fail
        go_roundw
        case rel => exact ⟨i, j - i, _, hi, by omega, him, by omega, rfl, (by congr 1; omega), R2.out, RQ.out, G2.out⟩
        case measure => simp [intOf]; omega
end Go.Proofs.Ythmkmjoeceghiaa
