/- The merge of two sorted rows of calls. -/
import Derived.Test.YthmkmjoeceghiaaOW
namespace Go.Proofs.Ythmkmjoeceghiaa
open Go.RowKit

attribute [local go_sem ↓] Go.wp_at_zero Go.wp_at_succ
theorem rot_no1 {α : Type} (f : Nat → α) (m e : Nat) : rot f m m e = f := by
  funext p; unfold rot
  split
  · congr 1; omega
  · split
    · omega
    · rfl
theorem rot_no2 {α : Type} (f : Nat → α) (s m : Nat) : rot f s m m = f := by
  funext p; unfold rot
  split
  · omega
  · split
    · congr 1; omega
    · rfl
theorem Srt.rr {l : List Sp} {f f' : Nat → Nat} {a b x y : Nat} (h : Srt l f x y) (r : Rr f f' a b) (hd : b ≤ x ∨ y ≤ a) : Srt l f' x y := h.congr (fun p p1 p2 => r.out p (by omega))
theorem Lss.rr {f f' : Nat → Nat} {a b x m y : Nat} (h : Lss f x m y) (r : Rr f f' a b) (hd : b ≤ x ∨ y ≤ a) : Lss f' x m y := fun p q p1 p2 p3 p4 => by
  rw [r.out p (by omega), r.out q (by omega)]; exact h p q p1 p2 p3 p4
theorem fl_rr {l : List Sp} {n : Nat} {f f' : Nat → Nat} {a b : Nat} (h : ∀ j, j < n → f j < l.length) (r : Rr f f' a b) (hb : b ≤ n) : ∀ j, j < n → f' j < l.length := fun j hj => by
  by_cases e : a ≤ j ∧ j < b
  · obtain ⟨q, q1, q2, q3⟩ := r.fro j e.1 e.2
    rw [q3]; exact h q (by omega)
  · rw [r.out j (by omega)]; exact h j hj
set_option maxRecDepth 100000 in
set_option maxHeartbeats 8000000 in
theorem merge_gen (l : List Sp) (g cap n : Nat) (cb : Nat → Nat) (z : Nat → Value) (f : Nat → Nat) (a m b : Nat) (w : World) (P0 : Pre l g cap n cb z f a m b w) (h0 : m ≠ a + 1) (h1 : b ≠ m + 1)
    (IH0 : ∀ (f' : Nat → Nat) (a' m' b' : Nat) (w' : World), b' - a' < b - a → Pre l g cap n cb z f' a' m' b' w' → Calls Try.prog 80 #[.slice (some ⟨g, 0, none⟩) n cap, .int .i64 a', .int .i64 m', .int .i64 b', soonerV] w' (Merged l g cap n cb z f' a' b' w')) :
    Calls Try.prog 80 #[.slice (some ⟨g, 0, none⟩) n cap, .int .i64 a, .int .i64 m, .int .i64 b, soonerV] w (Merged l g cap n cb z f a b w) := by
  have P := Lib.hid P0
  have IH := Lib.hid IH0
  have hc := P0.hc
  have hn := P0.hn
  have ham := P0.am
  have hmb := P0.mb
  have hbn := P0.bn
  have q0 : ((m : Int) - a == 1) = false := by simp; omega
  have q1 : ((b : Int) - m == 1) = false := by simp; omega
  obtain ⟨mid, hmid⟩ : ∃ mid, mid = (a + b) / 2 := ⟨_, rfl⟩
  have hq := half a b
  rw [← hmid] at hq
  have HMID := Lib.hid hmid
  have i5 : (0 : Int) ≤ (a : Int) + b := by omega
  have i6 : (a : Int) + b ≤ 200000 := by omega
  have hm1 : a < mid := by omega
  have hm2 : mid < b := by omega
  clear P0 IH0 hmid
  by_cases hmm : mid < m
  · obtain ⟨lo, hlo⟩ : ∃ lo, lo = mid + m - b := ⟨_, rfl⟩
    have qlo : (mid : Int) + m - b = (lo : Nat) := by omega
    have HLO := Lib.hid (show lo = if m > mid then mid + m - b else a by rw [if_pos hmm]; exact hlo)
    have HHI := Lib.hid (show mid = if m > mid then mid else m by rw [if_pos hmm])
    have hl1 : a ≤ lo := by omega
    have hl2 : lo ≤ mid := by omega
    have hl3 : mid + m - lo ≤ b := by omega
    clear hlo
    have t0 : (mid : Int) < m := by omega
    have hh1 : mid ≤ m := by omega
    have hh2 : mid ≤ mid := Nat.le_refl _
    go_enter Try.func80, Try.ntmps80
    go_wp2_with fail
    clear hq qlo q0 q1 i5 i6 t0
    go_loopw [20, 21] (fun sv rv wr => ∃ s r : Nat, lo ≤ s ∧ s ≤ r ∧ r ≤ mid ∧ sv = .int .i64 s ∧ rv = .int .i64 r ∧ (s = lo ∨ before l (f (s - 1)) (f (mid + m - s))) ∧ (r = mid ∨ before l (f (mid + m - 1 - r)) (f r)) ∧ RowN wr g cap n cb z f ∧ w.grownBy wr (some g)) (fun sv rv _ => (intOf rv).toNat - (intOf sv).toNat)
    case atStart => exact ⟨lo, mid, Nat.le_refl _, hl2, Nat.le_refl _, rfl, rfl, .inl rfl, .inl rfl, P.out.row, grown_refl _ _⟩
    case round =>
      obtain ⟨s, r, hls, hsr, hrh, rfl, rfl, hbi, hbj, hR, hG⟩ := hrel
      have BI := Lib.hid hbi
      have BJ := Lib.hid hbj
      have R1 := Lib.hid hR
      have G1 := Lib.hid hG
      clear hbi hbj hR hG
      by_cases hlt : s < r
      · obtain ⟨c, hcc⟩ : ∃ c, c = (s + r) / 2 := ⟨_, rfl⟩
        have hq := half s r
        rw [← hcc] at hq
        obtain ⟨d, hd⟩ : ∃ d, d = mid + m - 1 - c := ⟨_, rfl⟩
        have hc1 : s ≤ c := by omega
        have hc2 : c < r := by omega
        have hd1 : m ≤ d := by omega
        have hd2 : d < b := by omega
        have HD := Lib.hid hd
        have c1 := R1.out.cell hc (j := d) (by omega)
        have c2 := R1.out.cell hc (j := c) (by omega)
        have i0 : (s : Int) < r := by omega
        have i1 : (d : Int) < n := by omega
        have i2 : (c : Int) < n := by omega
        have i3 : (0 : Int) ≤ d := by omega
        have i4 : (0 : Int) ≤ c := by omega
        have i5 : (0 : Int) ≤ (s : Int) + r := by omega
        have i6 : (s : Int) + r ≤ 200000 := by omega
        have i7 : IntKind.i64.wrap (d : Int) = (d : Nat) := IntWalk.i64_in _ (by omega)
        have i8 : (mid : Int) + m - 1 - c = (d : Nat) := by omega
        have k1 := fun d' os => cell_regrown c1 d' os
        have k2 := fun d' os => cell_regrown c2 d' os
        have hcmp := fun W (hb : Below wr.heap.size wr W) => P.out.cmp (x := d) (y := c) (grown_trans G1.out (grown_of_below hb _)) (by omega) (by omega)
        have HY := Lib.hid (P.out.lt_iff (x := d) (y := c) hd1 hd2 (by omega) (by omega)).1
        have HN := Lib.hid (P.out.no_iff (x := d) (y := c) hd1 hd2 (by omega) (by omega))
        obtain ⟨v, hv⟩ : ∃ v, v = cmpI l (f d) (f c) := ⟨_, rfl⟩
        rw [← hv] at hcmp HY HN
        clear hv hcc hd
        by_cases hrn : v < 0
        · have BB := Lib.hid (HY.out hrn)
          go_wp2_with fail
          refine wp_region_quiet_below (by kernel_rfl) (by kernel_rfl) ?_
          repeat (quiet_step (first | ((go_at_call 55; exact Calls.regrown_of (hcmp _ (below_regrown wr _ _))))))
          refine wpQuiet_nil ?_
          intro _ hw'
          obtain ⟨⟨dq, osq⟩, hw''⟩ := hw'
          subst hw''
          have hbq : Below wr.heap.size wr (Go.Sort.grow (redrawn wr dq) osq) := below_regrown wr dq osq
          dsimp only
          generalize Go.Sort.grow (redrawn wr dq) osq = wq at hbq ⊢
          clear k1 k2 hcmp c1 c2 hrn hq i7 i8
          have R3 := Lib.hid (R1.out.below hbq)
          have G3 := Lib.hid (grown_trans G1.out (grown_of_below hbq _))
          clear hbq R1 G1
          go_wp2_with fail
          go_roundw
          case rel => exact ⟨s, c, hls, by omega, by omega, rfl, rfl, BI.out, .inr (by rw [← HD.out]; exact BB.out), R3.out, G3.out⟩
          case measure => simp [intOf]; omega
        · have BB := Lib.hid (HN.out hrn)
          have hrd : decide (v < 0) = false := by simpa using hrn
          go_wp2_with fail
          refine wp_region_quiet_below (by kernel_rfl) (by kernel_rfl) ?_
          repeat (quiet_step (first | ((go_at_call 55; exact Calls.regrown_of (hcmp _ (below_regrown wr _ _))))))
          refine wpQuiet_nil ?_
          intro _ hw'
          obtain ⟨⟨dq, osq⟩, hw''⟩ := hw'
          subst hw''
          have hbq : Below wr.heap.size wr (Go.Sort.grow (redrawn wr dq) osq) := below_regrown wr dq osq
          dsimp only
          generalize Go.Sort.grow (redrawn wr dq) osq = wq at hbq ⊢
          clear k1 k2 hcmp c1 c2 hrn hq hrd i7 i8
          have R3 := Lib.hid (R1.out.below hbq)
          have G3 := Lib.hid (grown_trans G1.out (grown_of_below hbq _))
          have BC := Lib.hid (show before l (f (c + 1 - 1)) (f (mid + m - (c + 1))) from by
            rw [show c + 1 - 1 = c by omega, show mid + m - (c + 1) = d by rw [HD.out]; omega]; exact BB.out)
          clear hbq R1 G1
          go_wp2_with fail
          go_roundw
          case rel => exact ⟨c + 1, r, by omega, by omega, hrh, by go_num, rfl, .inr BC.out, BJ.out, R3.out, G3.out⟩
          case measure => simp [intOf]; omega
      · obtain rfl : s = r := by omega
        have i0 : ¬ (s : Int) < s := by omega
        obtain ⟨e, he⟩ : ∃ e, e = mid + m - s := ⟨_, rfl⟩
        have qe : (mid : Int) + m - s = (e : Nat) := by omega
        have hME := met_of P.out.am P.out.mb HMID.out P.out.s1 P.out.s2 P.out.ls HLO.out HHI.out hls hrh BI.out BJ.out
        rw [← he] at hME
        have MM := Lib.hid hME.1
        have MD := Lib.hid hME.2
        have hE1 := hME.1.as1
        have hE2 := hME.1.sm
        have hE3 := hME.1.me
        have hE4 := hME.1.eb
        have hE5 := hME.2
        clear hME BI BJ he
        have HS := Lib.hid (show s = mid → e = m from fun h => (by omega))
        by_cases hsm : s = mid
        · have e1 := HS.out hsm
          have : s < m := by omega
          have : ((s : Nat) : Int) < (m : Nat) := by omega
          have : decide (m < e) = false := by simp; omega
          have : ¬ ((m : Nat) : Int) < (e : Nat) := by omega
          have : a < s := by omega
          have : ((a : Nat) : Int) < (s : Nat) := by omega
          have : decide (s < mid) = false := by simp; omega
          have : ¬ ((s : Nat) : Int) < (mid : Nat) := by omega
          have : mid < e := by omega
          have : ((mid : Nat) : Int) < (e : Nat) := by omega
          have : e < b := by omega
          have : ((e : Nat) : Int) < (b : Nat) := by omega
          clear hsm e1
          go_wp2_with fail
          have R2 := Lib.hid (RowN.congr R1.out (show f = rot f s m e by rw [show e = m by omega, rot_no2]))
          have G2 := Lib.hid G1.out
          have L1 := Lib.hid (show Srt l (rot f s m e) a mid from by have := MM.out.left (by omega); rwa [MD.out] at this)
          obtain ⟨f2, hf2⟩ : ∃ f2, f2 = rot f s m e := ⟨_, rfl⟩
          have X2 := Lib.hid (show Rr (rot f s m e) f2 a mid from hf2 ▸ Rr.refl _ _ _)
          have S2 := Lib.hid (show Srt l f2 a mid from hf2 ▸ L1.out)
          have R3 := Lib.hid (RowN.congr R2.out hf2.symm)
          have G3 := Lib.hid G2.out
          clear hf2
          refine (IH.out f2 mid e b _ (by omega) ⟨R3.out, P.out.ts.grown G3.out, hc, hn, fl_rr (fl_rr P.out.fl (Rr.rot f hE2 hE3) (by omega)) X2.out (by omega), P.out.ht, by omega, by omega, by omega, Srt.rr (by have := MM.out.l3; rwa [MD.out] at this) X2.out (.inl (Nat.le_refl _)), Srt.rr MM.out.l4 X2.out (.inl (by omega)), Lss.rr (by have := MM.out.ls2; rwa [MD.out] at this) X2.out (.inl (Nat.le_refl _))⟩).mono ?_
          rintro e1 w4 ⟨rfl, f3, hR4, hX3, hS3, hG4⟩
          have X3 := Lib.hid hX3
          have S3 := Lib.hid hS3
          have R4 := Lib.hid hR4
          have G4 := Lib.hid (grown_trans G3.out hG4)
          clear hR4 hG4 hX3 hS3
          go_wp2_with fail
          go_end0
          exact ⟨rfl, f3, R4.out, (((Rr.rot f hE2 hE3).wide hE1 hE4).trans (X2.out.wide (Nat.le_refl _) (by omega))).trans (X3.out.wide (by omega) (Nat.le_refl _)), Srt.join (S2.out.rr X3.out (.inr (Nat.le_refl _))) S3.out (cross_rr (by have := MM.out.cross; rwa [MD.out] at this) X2.out X3.out), G4.out⟩
        ·
          have : s < m := by omega
          have : ((s : Nat) : Int) < (m : Nat) := by omega
          have : m < e := by omega
          have : ((m : Nat) : Int) < (e : Nat) := by omega
          have : s < mid := by omega
          have : ((s : Nat) : Int) < (mid : Nat) := by omega
          have : mid < e := by omega
          have : ((mid : Nat) : Int) < (e : Nat) := by omega
          clear hsm
          by_cases has : a < s
          · by_cases heb : e < b
            ·
              have : a < s := by omega
              have : ((a : Nat) : Int) < (s : Nat) := by omega
              have : e < b := by omega
              have : ((e : Nat) : Int) < (b : Nat) := by omega
              clear has heb
              go_wp2_with fail
              refine (rotate_any g cap n cb z f soonerV s m e wr R1.out hc hn (by omega) (by omega) (by omega)).mono ?_
              rintro e1 w2 ⟨rfl, hR2, hG2⟩
              have R2 := Lib.hid hR2
              have G2 := Lib.hid (grown_trans G1.out hG2)
              clear hR2 hG2
              go_wp2_with fail
              refine (IH.out (rot f s m e) a s mid _ (by omega) ⟨R2.out, P.out.ts.grown G2.out, hc, hn, fl_rr P.out.fl (Rr.rot f hE2 hE3) (by omega), P.out.ht, by omega, by omega, by omega, MM.out.l1, (by have := MM.out.l2; rwa [MD.out] at this), (by have := MM.out.ls1; rwa [MD.out] at this)⟩).mono ?_
              rintro e1 w3 ⟨rfl, f2, hR3, hX2, hS2, hG3⟩
              have X2 := Lib.hid hX2
              have S2 := Lib.hid hS2
              have R3 := Lib.hid hR3
              have G3 := Lib.hid (grown_trans G2.out hG3)
              clear hR3 hG3 hX2 hS2
              go_wp2_with fail
              refine (IH.out f2 mid e b _ (by omega) ⟨R3.out, P.out.ts.grown G3.out, hc, hn, fl_rr (fl_rr P.out.fl (Rr.rot f hE2 hE3) (by omega)) X2.out (by omega), P.out.ht, by omega, by omega, by omega, Srt.rr (by have := MM.out.l3; rwa [MD.out] at this) X2.out (.inl (Nat.le_refl _)), Srt.rr MM.out.l4 X2.out (.inl (by omega)), Lss.rr (by have := MM.out.ls2; rwa [MD.out] at this) X2.out (.inl (Nat.le_refl _))⟩).mono ?_
              rintro e1 w4 ⟨rfl, f3, hR4, hX3, hS3, hG4⟩
              have X3 := Lib.hid hX3
              have S3 := Lib.hid hS3
              have R4 := Lib.hid hR4
              have G4 := Lib.hid (grown_trans G3.out hG4)
              clear hR4 hG4 hX3 hS3
              go_wp2_with fail
              go_end0
              exact ⟨rfl, f3, R4.out, (((Rr.rot f hE2 hE3).wide hE1 hE4).trans (X2.out.wide (Nat.le_refl _) (by omega))).trans (X3.out.wide (by omega) (Nat.le_refl _)), Srt.join (S2.out.rr X3.out (.inr (Nat.le_refl _))) S3.out (cross_rr (by have := MM.out.cross; rwa [MD.out] at this) X2.out X3.out), G4.out⟩
            ·
              have : a < s := by omega
              have : ((a : Nat) : Int) < (s : Nat) := by omega
              have : decide (e < b) = false := by simp; omega
              have : ¬ ((e : Nat) : Int) < (b : Nat) := by omega
              clear has heb
              go_wp2_with fail
              refine (rotate_any g cap n cb z f soonerV s m e wr R1.out hc hn (by omega) (by omega) (by omega)).mono ?_
              rintro e1 w2 ⟨rfl, hR2, hG2⟩
              have R2 := Lib.hid hR2
              have G2 := Lib.hid (grown_trans G1.out hG2)
              clear hR2 hG2
              go_wp2_with fail
              refine (IH.out (rot f s m e) a s mid _ (by omega) ⟨R2.out, P.out.ts.grown G2.out, hc, hn, fl_rr P.out.fl (Rr.rot f hE2 hE3) (by omega), P.out.ht, by omega, by omega, by omega, MM.out.l1, (by have := MM.out.l2; rwa [MD.out] at this), (by have := MM.out.ls1; rwa [MD.out] at this)⟩).mono ?_
              rintro e1 w3 ⟨rfl, f2, hR3, hX2, hS2, hG3⟩
              have X2 := Lib.hid hX2
              have S2 := Lib.hid hS2
              have R3 := Lib.hid hR3
              have G3 := Lib.hid (grown_trans G2.out hG3)
              clear hR3 hG3 hX2 hS2
              go_wp2_with fail
              have L2 := Lib.hid (show Srt l (rot f s m e) mid b from by have := MM.out.right (by omega); rwa [MD.out] at this)
              obtain ⟨f3, hf3⟩ : ∃ f3, f3 = f2 := ⟨_, rfl⟩
              have X3 := Lib.hid (show Rr f2 f3 mid b from hf3 ▸ Rr.refl _ _ _)
              have S3 := Lib.hid (show Srt l f3 mid b from hf3 ▸ L2.out.rr X2.out (.inl (Nat.le_refl _)))
              have R4 := Lib.hid (RowN.congr R3.out hf3.symm)
              have G4 := Lib.hid G3.out
              clear hf3
              go_end0
              exact ⟨rfl, f3, R4.out, (((Rr.rot f hE2 hE3).wide hE1 hE4).trans (X2.out.wide (Nat.le_refl _) (by omega))).trans (X3.out.wide (by omega) (Nat.le_refl _)), Srt.join (S2.out.rr X3.out (.inr (Nat.le_refl _))) S3.out (cross_rr (by have := MM.out.cross; rwa [MD.out] at this) X2.out X3.out), G4.out⟩
          · by_cases heb : e < b
            ·
              have : decide (a < s) = false := by simp; omega
              have : ¬ ((a : Nat) : Int) < (s : Nat) := by omega
              have : e < b := by omega
              have : ((e : Nat) : Int) < (b : Nat) := by omega
              clear has heb
              go_wp2_with fail
              refine (rotate_any g cap n cb z f soonerV s m e wr R1.out hc hn (by omega) (by omega) (by omega)).mono ?_
              rintro e1 w2 ⟨rfl, hR2, hG2⟩
              have R2 := Lib.hid hR2
              have G2 := Lib.hid (grown_trans G1.out hG2)
              clear hR2 hG2
              go_wp2_with fail
              have L1 := Lib.hid (show Srt l (rot f s m e) a mid from by have := MM.out.left (by omega); rwa [MD.out] at this)
              obtain ⟨f2, hf2⟩ : ∃ f2, f2 = rot f s m e := ⟨_, rfl⟩
              have X2 := Lib.hid (show Rr (rot f s m e) f2 a mid from hf2 ▸ Rr.refl _ _ _)
              have S2 := Lib.hid (show Srt l f2 a mid from hf2 ▸ L1.out)
              have R3 := Lib.hid (RowN.congr R2.out hf2.symm)
              have G3 := Lib.hid G2.out
              clear hf2
              refine (IH.out f2 mid e b _ (by omega) ⟨R3.out, P.out.ts.grown G3.out, hc, hn, fl_rr (fl_rr P.out.fl (Rr.rot f hE2 hE3) (by omega)) X2.out (by omega), P.out.ht, by omega, by omega, by omega, Srt.rr (by have := MM.out.l3; rwa [MD.out] at this) X2.out (.inl (Nat.le_refl _)), Srt.rr MM.out.l4 X2.out (.inl (by omega)), Lss.rr (by have := MM.out.ls2; rwa [MD.out] at this) X2.out (.inl (Nat.le_refl _))⟩).mono ?_
              rintro e1 w4 ⟨rfl, f3, hR4, hX3, hS3, hG4⟩
              have X3 := Lib.hid hX3
              have S3 := Lib.hid hS3
              have R4 := Lib.hid hR4
              have G4 := Lib.hid (grown_trans G3.out hG4)
              clear hR4 hG4 hX3 hS3
              go_wp2_with fail
              go_end0
              exact ⟨rfl, f3, R4.out, (((Rr.rot f hE2 hE3).wide hE1 hE4).trans (X2.out.wide (Nat.le_refl _) (by omega))).trans (X3.out.wide (by omega) (Nat.le_refl _)), Srt.join (S2.out.rr X3.out (.inr (Nat.le_refl _))) S3.out (cross_rr (by have := MM.out.cross; rwa [MD.out] at this) X2.out X3.out), G4.out⟩
            ·
              have : decide (a < s) = false := by simp; omega
              have : ¬ ((a : Nat) : Int) < (s : Nat) := by omega
              have : decide (e < b) = false := by simp; omega
              have : ¬ ((e : Nat) : Int) < (b : Nat) := by omega
              clear has heb
              go_wp2_with fail
              refine (rotate_any g cap n cb z f soonerV s m e wr R1.out hc hn (by omega) (by omega) (by omega)).mono ?_
              rintro e1 w2 ⟨rfl, hR2, hG2⟩
              have R2 := Lib.hid hR2
              have G2 := Lib.hid (grown_trans G1.out hG2)
              clear hR2 hG2
              go_wp2_with fail
              have L1 := Lib.hid (show Srt l (rot f s m e) a mid from by have := MM.out.left (by omega); rwa [MD.out] at this)
              obtain ⟨f2, hf2⟩ : ∃ f2, f2 = rot f s m e := ⟨_, rfl⟩
              have X2 := Lib.hid (show Rr (rot f s m e) f2 a mid from hf2 ▸ Rr.refl _ _ _)
              have S2 := Lib.hid (show Srt l f2 a mid from hf2 ▸ L1.out)
              have R3 := Lib.hid (RowN.congr R2.out hf2.symm)
              have G3 := Lib.hid G2.out
              clear hf2
              have L2 := Lib.hid (show Srt l (rot f s m e) mid b from by have := MM.out.right (by omega); rwa [MD.out] at this)
              obtain ⟨f3, hf3⟩ : ∃ f3, f3 = f2 := ⟨_, rfl⟩
              have X3 := Lib.hid (show Rr f2 f3 mid b from hf3 ▸ Rr.refl _ _ _)
              have S3 := Lib.hid (show Srt l f3 mid b from hf3 ▸ L2.out.rr X2.out (.inl (Nat.le_refl _)))
              have R4 := Lib.hid (RowN.congr R3.out hf3.symm)
              have G4 := Lib.hid G3.out
              clear hf3
              go_end0
              exact ⟨rfl, f3, R4.out, (((Rr.rot f hE2 hE3).wide hE1 hE4).trans (X2.out.wide (Nat.le_refl _) (by omega))).trans (X3.out.wide (by omega) (Nat.le_refl _)), Srt.join (S2.out.rr X3.out (.inr (Nat.le_refl _))) S3.out (cross_rr (by have := MM.out.cross; rwa [MD.out] at this) X2.out X3.out), G4.out⟩
  · have HLO := Lib.hid (show a = if m > mid then mid + m - b else a by rw [if_neg (by omega)])
    have HHI := Lib.hid (show m = if m > mid then mid else m by rw [if_neg (by omega)])
    have hl1 : a ≤ a := Nat.le_refl _
    have hl2 : a ≤ m := by omega
    have hl3 : mid + m - a ≤ b := by omega
    have t0 : ¬ (mid : Int) < m := by omega
    have hh1 : m ≤ m := Nat.le_refl _
    have hh2 : m ≤ mid := by omega
    go_enter Try.func80, Try.ntmps80
    go_wp2_with fail
    clear hq q0 q1 i5 i6 t0
    go_loopw [20, 21] (fun sv rv wr => ∃ s r : Nat, a ≤ s ∧ s ≤ r ∧ r ≤ m ∧ sv = .int .i64 s ∧ rv = .int .i64 r ∧ (s = a ∨ before l (f (s - 1)) (f (mid + m - s))) ∧ (r = m ∨ before l (f (mid + m - 1 - r)) (f r)) ∧ RowN wr g cap n cb z f ∧ w.grownBy wr (some g)) (fun sv rv _ => (intOf rv).toNat - (intOf sv).toNat)
    case atStart => exact ⟨a, m, Nat.le_refl _, hl2, Nat.le_refl _, rfl, rfl, .inl rfl, .inl rfl, P.out.row, grown_refl _ _⟩
    case round =>
      obtain ⟨s, r, hls, hsr, hrh, rfl, rfl, hbi, hbj, hR, hG⟩ := hrel
      have BI := Lib.hid hbi
      have BJ := Lib.hid hbj
      have R1 := Lib.hid hR
      have G1 := Lib.hid hG
      clear hbi hbj hR hG
      by_cases hlt : s < r
      · obtain ⟨c, hcc⟩ : ∃ c, c = (s + r) / 2 := ⟨_, rfl⟩
        have hq := half s r
        rw [← hcc] at hq
        obtain ⟨d, hd⟩ : ∃ d, d = mid + m - 1 - c := ⟨_, rfl⟩
        have hc1 : s ≤ c := by omega
        have hc2 : c < r := by omega
        have hd1 : m ≤ d := by omega
        have hd2 : d < b := by omega
        have HD := Lib.hid hd
        have c1 := R1.out.cell hc (j := d) (by omega)
        have c2 := R1.out.cell hc (j := c) (by omega)
        have i0 : (s : Int) < r := by omega
        have i1 : (d : Int) < n := by omega
        have i2 : (c : Int) < n := by omega
        have i3 : (0 : Int) ≤ d := by omega
        have i4 : (0 : Int) ≤ c := by omega
        have i5 : (0 : Int) ≤ (s : Int) + r := by omega
        have i6 : (s : Int) + r ≤ 200000 := by omega
        have i7 : IntKind.i64.wrap (d : Int) = (d : Nat) := IntWalk.i64_in _ (by omega)
        have i8 : (mid : Int) + m - 1 - c = (d : Nat) := by omega
        have k1 := fun d' os => cell_regrown c1 d' os
        have k2 := fun d' os => cell_regrown c2 d' os
        have hcmp := fun W (hb : Below wr.heap.size wr W) => P.out.cmp (x := d) (y := c) (grown_trans G1.out (grown_of_below hb _)) (by omega) (by omega)
        have HY := Lib.hid (P.out.lt_iff (x := d) (y := c) hd1 hd2 (by omega) (by omega)).1
        have HN := Lib.hid (P.out.no_iff (x := d) (y := c) hd1 hd2 (by omega) (by omega))
        obtain ⟨v, hv⟩ : ∃ v, v = cmpI l (f d) (f c) := ⟨_, rfl⟩
        rw [← hv] at hcmp HY HN
        clear hv hcc hd
        by_cases hrn : v < 0
        · have BB := Lib.hid (HY.out hrn)
          go_wp2_with fail
          refine wp_region_quiet_below (by kernel_rfl) (by kernel_rfl) ?_
          repeat (quiet_step (first | ((go_at_call 55; exact Calls.regrown_of (hcmp _ (below_regrown wr _ _))))))
          refine wpQuiet_nil ?_
          intro _ hw'
          obtain ⟨⟨dq, osq⟩, hw''⟩ := hw'
          subst hw''
          have hbq : Below wr.heap.size wr (Go.Sort.grow (redrawn wr dq) osq) := below_regrown wr dq osq
          dsimp only
          generalize Go.Sort.grow (redrawn wr dq) osq = wq at hbq ⊢
          clear k1 k2 hcmp c1 c2 hrn hq i7 i8
          have R3 := Lib.hid (R1.out.below hbq)
          have G3 := Lib.hid (grown_trans G1.out (grown_of_below hbq _))
          clear hbq R1 G1
          go_wp2_with fail
          go_roundw
          case rel => exact ⟨s, c, hls, by omega, by omega, rfl, rfl, BI.out, .inr (by rw [← HD.out]; exact BB.out), R3.out, G3.out⟩
          case measure => simp [intOf]; omega
        · have BB := Lib.hid (HN.out hrn)
          have hrd : decide (v < 0) = false := by simpa using hrn
          go_wp2_with fail
          refine wp_region_quiet_below (by kernel_rfl) (by kernel_rfl) ?_
          repeat (quiet_step (first | ((go_at_call 55; exact Calls.regrown_of (hcmp _ (below_regrown wr _ _))))))
          refine wpQuiet_nil ?_
          intro _ hw'
          obtain ⟨⟨dq, osq⟩, hw''⟩ := hw'
          subst hw''
          have hbq : Below wr.heap.size wr (Go.Sort.grow (redrawn wr dq) osq) := below_regrown wr dq osq
          dsimp only
          generalize Go.Sort.grow (redrawn wr dq) osq = wq at hbq ⊢
          clear k1 k2 hcmp c1 c2 hrn hq hrd i7 i8
          have R3 := Lib.hid (R1.out.below hbq)
          have G3 := Lib.hid (grown_trans G1.out (grown_of_below hbq _))
          have BC := Lib.hid (show before l (f (c + 1 - 1)) (f (mid + m - (c + 1))) from by
            rw [show c + 1 - 1 = c by omega, show mid + m - (c + 1) = d by rw [HD.out]; omega]; exact BB.out)
          clear hbq R1 G1
          go_wp2_with fail
          go_roundw
          case rel => exact ⟨c + 1, r, by omega, by omega, hrh, by go_num, rfl, .inr BC.out, BJ.out, R3.out, G3.out⟩
          case measure => simp [intOf]; omega
      · obtain rfl : s = r := by omega
        have i0 : ¬ (s : Int) < s := by omega
        obtain ⟨e, he⟩ : ∃ e, e = mid + m - s := ⟨_, rfl⟩
        have qe : (mid : Int) + m - s = (e : Nat) := by omega
        have hME := met_of P.out.am P.out.mb HMID.out P.out.s1 P.out.s2 P.out.ls HLO.out HHI.out hls hrh BI.out BJ.out
        rw [← he] at hME
        have MM := Lib.hid hME.1
        have MD := Lib.hid hME.2
        have hE1 := hME.1.as1
        have hE2 := hME.1.sm
        have hE3 := hME.1.me
        have hE4 := hME.1.eb
        have hE5 := hME.2
        clear hME BI BJ he
        by_cases hsm : s = m
        · have e1 : e = mid := by omega
          have : decide (s < m) = false := by simp; omega
          have : ¬ ((s : Nat) : Int) < (m : Nat) := by omega
          have : a < s := by omega
          have : ((a : Nat) : Int) < (s : Nat) := by omega
          have : decide (mid < e) = false := by simp; omega
          have : ¬ ((mid : Nat) : Int) < (e : Nat) := by omega
          by_cases hmd : m = mid
          ·
            have : decide (s < mid) = false := by simp; omega
            have : ¬ ((s : Nat) : Int) < (mid : Nat) := by omega
            clear hsm e1 hmd
            go_wp2_with fail
            have R2 := Lib.hid (RowN.congr R1.out (show f = rot f s m e by rw [show s = m by omega, rot_no1]))
            have G2 := Lib.hid G1.out
            have L1 := Lib.hid (show Srt l (rot f s m e) a mid from by have := MM.out.left (by omega); rwa [MD.out] at this)
            obtain ⟨f2, hf2⟩ : ∃ f2, f2 = rot f s m e := ⟨_, rfl⟩
            have X2 := Lib.hid (show Rr (rot f s m e) f2 a mid from hf2 ▸ Rr.refl _ _ _)
            have S2 := Lib.hid (show Srt l f2 a mid from hf2 ▸ L1.out)
            have R3 := Lib.hid (RowN.congr R2.out hf2.symm)
            have G3 := Lib.hid G2.out
            clear hf2
            have L2 := Lib.hid (show Srt l (rot f s m e) mid b from by have := MM.out.right (by omega); rwa [MD.out] at this)
            obtain ⟨f3, hf3⟩ : ∃ f3, f3 = f2 := ⟨_, rfl⟩
            have X3 := Lib.hid (show Rr f2 f3 mid b from hf3 ▸ Rr.refl _ _ _)
            have S3 := Lib.hid (show Srt l f3 mid b from hf3 ▸ L2.out.rr X2.out (.inl (Nat.le_refl _)))
            have R4 := Lib.hid (RowN.congr R3.out hf3.symm)
            have G4 := Lib.hid G3.out
            clear hf3
            go_end0
            exact ⟨rfl, f3, R4.out, (((Rr.rot f hE2 hE3).wide hE1 hE4).trans (X2.out.wide (Nat.le_refl _) (by omega))).trans (X3.out.wide (by omega) (Nat.le_refl _)), Srt.join (S2.out.rr X3.out (.inr (Nat.le_refl _))) S3.out (cross_rr (by have := MM.out.cross; rwa [MD.out] at this) X2.out X3.out), G4.out⟩
          ·
            have : s < mid := by omega
            have : ((s : Nat) : Int) < (mid : Nat) := by omega
            clear hsm e1 hmd
            go_wp2_with fail
            have R2 := Lib.hid (RowN.congr R1.out (show f = rot f s m e by rw [show s = m by omega, rot_no1]))
            have G2 := Lib.hid G1.out
            refine (IH.out (rot f s m e) a s mid _ (by omega) ⟨R2.out, P.out.ts.grown G2.out, hc, hn, fl_rr P.out.fl (Rr.rot f hE2 hE3) (by omega), P.out.ht, by omega, by omega, by omega, MM.out.l1, (by have := MM.out.l2; rwa [MD.out] at this), (by have := MM.out.ls1; rwa [MD.out] at this)⟩).mono ?_
            rintro e1 w3 ⟨rfl, f2, hR3, hX2, hS2, hG3⟩
            have X2 := Lib.hid hX2
            have S2 := Lib.hid hS2
            have R3 := Lib.hid hR3
            have G3 := Lib.hid (grown_trans G2.out hG3)
            clear hR3 hG3 hX2 hS2
            go_wp2_with fail
            have L2 := Lib.hid (show Srt l (rot f s m e) mid b from by have := MM.out.right (by omega); rwa [MD.out] at this)
            obtain ⟨f3, hf3⟩ : ∃ f3, f3 = f2 := ⟨_, rfl⟩
            have X3 := Lib.hid (show Rr f2 f3 mid b from hf3 ▸ Rr.refl _ _ _)
            have S3 := Lib.hid (show Srt l f3 mid b from hf3 ▸ L2.out.rr X2.out (.inl (Nat.le_refl _)))
            have R4 := Lib.hid (RowN.congr R3.out hf3.symm)
            have G4 := Lib.hid G3.out
            clear hf3
            go_end0
            exact ⟨rfl, f3, R4.out, (((Rr.rot f hE2 hE3).wide hE1 hE4).trans (X2.out.wide (Nat.le_refl _) (by omega))).trans (X3.out.wide (by omega) (Nat.le_refl _)), Srt.join (S2.out.rr X3.out (.inr (Nat.le_refl _))) S3.out (cross_rr (by have := MM.out.cross; rwa [MD.out] at this) X2.out X3.out), G4.out⟩
        ·
          have : s < m := by omega
          have : ((s : Nat) : Int) < (m : Nat) := by omega
          have : m < e := by omega
          have : ((m : Nat) : Int) < (e : Nat) := by omega
          have : s < mid := by omega
          have : ((s : Nat) : Int) < (mid : Nat) := by omega
          have : mid < e := by omega
          have : ((mid : Nat) : Int) < (e : Nat) := by omega
          clear hsm
          by_cases has : a < s
          · by_cases heb : e < b
            ·
              have : a < s := by omega
              have : ((a : Nat) : Int) < (s : Nat) := by omega
              have : e < b := by omega
              have : ((e : Nat) : Int) < (b : Nat) := by omega
              clear has heb
              go_wp2_with fail
              refine (rotate_any g cap n cb z f soonerV s m e wr R1.out hc hn (by omega) (by omega) (by omega)).mono ?_
              rintro e1 w2 ⟨rfl, hR2, hG2⟩
              have R2 := Lib.hid hR2
              have G2 := Lib.hid (grown_trans G1.out hG2)
              clear hR2 hG2
              go_wp2_with fail
              refine (IH.out (rot f s m e) a s mid _ (by omega) ⟨R2.out, P.out.ts.grown G2.out, hc, hn, fl_rr P.out.fl (Rr.rot f hE2 hE3) (by omega), P.out.ht, by omega, by omega, by omega, MM.out.l1, (by have := MM.out.l2; rwa [MD.out] at this), (by have := MM.out.ls1; rwa [MD.out] at this)⟩).mono ?_
              rintro e1 w3 ⟨rfl, f2, hR3, hX2, hS2, hG3⟩
              have X2 := Lib.hid hX2
              have S2 := Lib.hid hS2
              have R3 := Lib.hid hR3
              have G3 := Lib.hid (grown_trans G2.out hG3)
              clear hR3 hG3 hX2 hS2
              go_wp2_with fail
              refine (IH.out f2 mid e b _ (by omega) ⟨R3.out, P.out.ts.grown G3.out, hc, hn, fl_rr (fl_rr P.out.fl (Rr.rot f hE2 hE3) (by omega)) X2.out (by omega), P.out.ht, by omega, by omega, by omega, Srt.rr (by have := MM.out.l3; rwa [MD.out] at this) X2.out (.inl (Nat.le_refl _)), Srt.rr MM.out.l4 X2.out (.inl (by omega)), Lss.rr (by have := MM.out.ls2; rwa [MD.out] at this) X2.out (.inl (Nat.le_refl _))⟩).mono ?_
              rintro e1 w4 ⟨rfl, f3, hR4, hX3, hS3, hG4⟩
              have X3 := Lib.hid hX3
              have S3 := Lib.hid hS3
              have R4 := Lib.hid hR4
              have G4 := Lib.hid (grown_trans G3.out hG4)
              clear hR4 hG4 hX3 hS3
              go_wp2_with fail
              go_end0
              exact ⟨rfl, f3, R4.out, (((Rr.rot f hE2 hE3).wide hE1 hE4).trans (X2.out.wide (Nat.le_refl _) (by omega))).trans (X3.out.wide (by omega) (Nat.le_refl _)), Srt.join (S2.out.rr X3.out (.inr (Nat.le_refl _))) S3.out (cross_rr (by have := MM.out.cross; rwa [MD.out] at this) X2.out X3.out), G4.out⟩
            ·
              have : a < s := by omega
              have : ((a : Nat) : Int) < (s : Nat) := by omega
              have : decide (e < b) = false := by simp; omega
              have : ¬ ((e : Nat) : Int) < (b : Nat) := by omega
              clear has heb
              go_wp2_with fail
              refine (rotate_any g cap n cb z f soonerV s m e wr R1.out hc hn (by omega) (by omega) (by omega)).mono ?_
              rintro e1 w2 ⟨rfl, hR2, hG2⟩
              have R2 := Lib.hid hR2
              have G2 := Lib.hid (grown_trans G1.out hG2)
              clear hR2 hG2
              go_wp2_with fail
              refine (IH.out (rot f s m e) a s mid _ (by omega) ⟨R2.out, P.out.ts.grown G2.out, hc, hn, fl_rr P.out.fl (Rr.rot f hE2 hE3) (by omega), P.out.ht, by omega, by omega, by omega, MM.out.l1, (by have := MM.out.l2; rwa [MD.out] at this), (by have := MM.out.ls1; rwa [MD.out] at this)⟩).mono ?_
              rintro e1 w3 ⟨rfl, f2, hR3, hX2, hS2, hG3⟩
              have X2 := Lib.hid hX2
              have S2 := Lib.hid hS2
              have R3 := Lib.hid hR3
              have G3 := Lib.hid (grown_trans G2.out hG3)
              clear hR3 hG3 hX2 hS2
              go_wp2_with fail
              have L2 := Lib.hid (show Srt l (rot f s m e) mid b from by have := MM.out.right (by omega); rwa [MD.out] at this)
              obtain ⟨f3, hf3⟩ : ∃ f3, f3 = f2 := ⟨_, rfl⟩
              have X3 := Lib.hid (show Rr f2 f3 mid b from hf3 ▸ Rr.refl _ _ _)
              have S3 := Lib.hid (show Srt l f3 mid b from hf3 ▸ L2.out.rr X2.out (.inl (Nat.le_refl _)))
              have R4 := Lib.hid (RowN.congr R3.out hf3.symm)
              have G4 := Lib.hid G3.out
              clear hf3
              go_end0
              exact ⟨rfl, f3, R4.out, (((Rr.rot f hE2 hE3).wide hE1 hE4).trans (X2.out.wide (Nat.le_refl _) (by omega))).trans (X3.out.wide (by omega) (Nat.le_refl _)), Srt.join (S2.out.rr X3.out (.inr (Nat.le_refl _))) S3.out (cross_rr (by have := MM.out.cross; rwa [MD.out] at this) X2.out X3.out), G4.out⟩
          · by_cases heb : e < b
            ·
              have : decide (a < s) = false := by simp; omega
              have : ¬ ((a : Nat) : Int) < (s : Nat) := by omega
              have : e < b := by omega
              have : ((e : Nat) : Int) < (b : Nat) := by omega
              clear has heb
              go_wp2_with fail
              refine (rotate_any g cap n cb z f soonerV s m e wr R1.out hc hn (by omega) (by omega) (by omega)).mono ?_
              rintro e1 w2 ⟨rfl, hR2, hG2⟩
              have R2 := Lib.hid hR2
              have G2 := Lib.hid (grown_trans G1.out hG2)
              clear hR2 hG2
              go_wp2_with fail
              have L1 := Lib.hid (show Srt l (rot f s m e) a mid from by have := MM.out.left (by omega); rwa [MD.out] at this)
              obtain ⟨f2, hf2⟩ : ∃ f2, f2 = rot f s m e := ⟨_, rfl⟩
              have X2 := Lib.hid (show Rr (rot f s m e) f2 a mid from hf2 ▸ Rr.refl _ _ _)
              have S2 := Lib.hid (show Srt l f2 a mid from hf2 ▸ L1.out)
              have R3 := Lib.hid (RowN.congr R2.out hf2.symm)
              have G3 := Lib.hid G2.out
              clear hf2
              refine (IH.out f2 mid e b _ (by omega) ⟨R3.out, P.out.ts.grown G3.out, hc, hn, fl_rr (fl_rr P.out.fl (Rr.rot f hE2 hE3) (by omega)) X2.out (by omega), P.out.ht, by omega, by omega, by omega, Srt.rr (by have := MM.out.l3; rwa [MD.out] at this) X2.out (.inl (Nat.le_refl _)), Srt.rr MM.out.l4 X2.out (.inl (by omega)), Lss.rr (by have := MM.out.ls2; rwa [MD.out] at this) X2.out (.inl (Nat.le_refl _))⟩).mono ?_
              rintro e1 w4 ⟨rfl, f3, hR4, hX3, hS3, hG4⟩
              have X3 := Lib.hid hX3
              have S3 := Lib.hid hS3
              have R4 := Lib.hid hR4
              have G4 := Lib.hid (grown_trans G3.out hG4)
              clear hR4 hG4 hX3 hS3
              go_wp2_with fail
              go_end0
              exact ⟨rfl, f3, R4.out, (((Rr.rot f hE2 hE3).wide hE1 hE4).trans (X2.out.wide (Nat.le_refl _) (by omega))).trans (X3.out.wide (by omega) (Nat.le_refl _)), Srt.join (S2.out.rr X3.out (.inr (Nat.le_refl _))) S3.out (cross_rr (by have := MM.out.cross; rwa [MD.out] at this) X2.out X3.out), G4.out⟩
            ·
              have : decide (a < s) = false := by simp; omega
              have : ¬ ((a : Nat) : Int) < (s : Nat) := by omega
              have : decide (e < b) = false := by simp; omega
              have : ¬ ((e : Nat) : Int) < (b : Nat) := by omega
              clear has heb
              go_wp2_with fail
              refine (rotate_any g cap n cb z f soonerV s m e wr R1.out hc hn (by omega) (by omega) (by omega)).mono ?_
              rintro e1 w2 ⟨rfl, hR2, hG2⟩
              have R2 := Lib.hid hR2
              have G2 := Lib.hid (grown_trans G1.out hG2)
              clear hR2 hG2
              go_wp2_with fail
              have L1 := Lib.hid (show Srt l (rot f s m e) a mid from by have := MM.out.left (by omega); rwa [MD.out] at this)
              obtain ⟨f2, hf2⟩ : ∃ f2, f2 = rot f s m e := ⟨_, rfl⟩
              have X2 := Lib.hid (show Rr (rot f s m e) f2 a mid from hf2 ▸ Rr.refl _ _ _)
              have S2 := Lib.hid (show Srt l f2 a mid from hf2 ▸ L1.out)
              have R3 := Lib.hid (RowN.congr R2.out hf2.symm)
              have G3 := Lib.hid G2.out
              clear hf2
              have L2 := Lib.hid (show Srt l (rot f s m e) mid b from by have := MM.out.right (by omega); rwa [MD.out] at this)
              obtain ⟨f3, hf3⟩ : ∃ f3, f3 = f2 := ⟨_, rfl⟩
              have X3 := Lib.hid (show Rr f2 f3 mid b from hf3 ▸ Rr.refl _ _ _)
              have S3 := Lib.hid (show Srt l f3 mid b from hf3 ▸ L2.out.rr X2.out (.inl (Nat.le_refl _)))
              have R4 := Lib.hid (RowN.congr R3.out hf3.symm)
              have G4 := Lib.hid G3.out
              clear hf3
              go_end0
              exact ⟨rfl, f3, R4.out, (((Rr.rot f hE2 hE3).wide hE1 hE4).trans (X2.out.wide (Nat.le_refl _) (by omega))).trans (X3.out.wide (by omega) (Nat.le_refl _)), Srt.join (S2.out.rr X3.out (.inr (Nat.le_refl _))) S3.out (cross_rr (by have := MM.out.cross; rwa [MD.out] at this) X2.out X3.out), G4.out⟩
/-- the merge -/
theorem merge_any (l : List Sp) (g cap n : Nat) (cb : Nat → Nat) (z : Nat → Value) : ∀ (N : Nat) (f : Nat → Nat) (a m b : Nat) (w : World), b - a ≤ N → Pre l g cap n cb z f a m b w →
    Calls Try.prog 80 #[.slice (some ⟨g, 0, none⟩) n cap, .int .i64 a, .int .i64 m, .int .i64 b, soonerV] w (Merged l g cap n cb z f a b w)
  | 0, f, a, m, b, w, hN, P => by have := P.am; have := P.mb; omega
  | N + 1, f, a, m, b, w, hN, P => by
    by_cases h1 : m = a + 1
    · exact merge_left l g cap n cb z f a m b w P h1
    · by_cases h2 : b = m + 1
      · exact merge_right l g cap n cb z f a m b w P h1 h2
      · exact merge_gen l g cap n cb z f a m b w P h1 h2 (fun f' a' m' b' w' hlt P' => merge_any l g cap n cb z N f' a' m' b' w' (by omega) P')
end Go.Proofs.Ythmkmjoeceghiaa
