/- The stable sort of calls. -/
import Derived.Test.YthmkmjoeceghiaaOX
namespace Go.Proofs.Ythmkmjoeceghiaa
open Go.RowKit

attribute [local go_sem ↓] Go.wp_at_zero Go.wp_at_succ
/-- all of f are the numbers below n -/
structure All (f : Nat → Nat) (n : Nat) : Prop where
  lt : ∀ p, p < n → f p < n
  on : ∀ q, q < n → ∃ p, p < n ∧ f p = q
theorem All.rr {f f' : Nat → Nat} {n a b : Nat} (h : All f n) (r : Rr f f' a b) (hb : b ≤ n) : All f' n :=
  ⟨fun p hp => by
    by_cases e : a ≤ p ∧ p < b
    · obtain ⟨q, q1, q2, q3⟩ := r.fro p e.1 e.2
      rw [q3]; exact h.lt q (by omega)
    · rw [r.out p (by omega)]; exact h.lt p hp, fun q hq => by
    obtain ⟨p, hp, he⟩ := h.on q hq
    by_cases e : a ≤ p ∧ p < b
    · obtain ⟨p', q1, q2, q3⟩ := r.to p e.1 e.2
      exact ⟨p', by omega, by rw [q3, he]⟩
    · exact ⟨p, hp, by rw [r.out p (by omega), he]⟩⟩
/-- between a and b: sorted, and all from there -/
structure Bk (l : List Sp) (f : Nat → Nat) (a b : Nat) : Prop where
  srt : Srt l f a b
  own : ∀ p, a ≤ p → p < b → a ≤ f p ∧ f p < b
theorem Bk.far {l : List Sp} {f f' : Nat → Nat} {a b x y : Nat} (h : Bk l f a b) (r : Rr f f' x y) (hd : y ≤ a ∨ b ≤ x) : Bk l f' a b :=
  ⟨h.srt.rr r (by omega), fun p p1 p2 => by rw [r.out p (by omega)]; exact h.own p p1 p2⟩
theorem Bk.lss {l : List Sp} {f : Nat → Nat} {a m b : Nat} (h1 : Bk l f a m) (h2 : Bk l f m b) : Lss f a m b := fun p q p1 p2 p3 p4 => by
  have := h1.own p p1 p2; have := h2.own q p3 p4; omega
theorem Bk.merged {l : List Sp} {f f' : Nat → Nat} {a m b : Nat} (h1 : Bk l f a m) (h2 : Bk l f m b) (ham : a ≤ m) (hmb : m ≤ b) (r : Rr f f' a b) (s : Srt l f' a b) : Bk l f' a b :=
  ⟨s, fun p p1 p2 => by
    obtain ⟨q, q1, q2, q3⟩ := r.fro p p1 p2
    rw [q3]
    by_cases e : q < m
    · have := h1.own q q1 e; omega
    · have := h2.own q (by omega) q2; omega⟩
theorem Bk.first {l : List Sp} {f f' : Nat → Nat} {a b : Nat} (h : ∀ p, a ≤ p → p < b → f p = p) (r : Rr f f' a b) (s : Srt l f' a b) : Bk l f' a b :=
  ⟨s, fun p p1 p2 => by
    obtain ⟨q, q1, q2, q3⟩ := r.fro p p1 p2
    rw [q3, h q q1 q2]; omega⟩
/-- blocks of s as far as a -/
inductive Upto (l : List Sp) (f : Nat → Nat) (s : Nat) : Nat → Prop
  | zero : Upto l f s 0
  | step {a : Nat} : Upto l f s a → Bk l f a (a + s) → Upto l f s (a + s)
/-- blocks of s from a on -/
inductive Chain (l : List Sp) (f : Nat → Nat) (s n : Nat) : Nat → Prop
  | done {a : Nat} : n ≤ a → Chain l f s n a
  | more {a : Nat} : a < n → Bk l f a (min (a + s) n) → Chain l f s n (a + s) → Chain l f s n a
theorem Upto.rr {l : List Sp} {f f' : Nat → Nat} {s x y a : Nat} (h : Upto l f s a) (r : Rr f f' x y) (hx : a ≤ x) : Upto l f' s a := by
  induction h with
  | zero => exact .zero
  | step _ hb ih => exact .step (ih (by omega)) (hb.far r (.inr hx))
theorem Chain.rr {l : List Sp} {f f' : Nat → Nat} {s n x y a : Nat} (h : Chain l f s n a) (r : Rr f f' x y) (hx : y ≤ a) : Chain l f' s n a := by
  induction h with
  | done h => exact .done h
  | more h hb _ ih => exact .more h (hb.far r (.inl hx)) (ih (by omega))
theorem Upto.chain {l : List Sp} {f : Nat → Nat} {s n a : Nat} (h : Upto l f s a) (hs : 0 < s) (ha : a ≤ n) (hc : Chain l f s n a) : Chain l f s n 0 := by
  induction h with
  | zero => exact hc
  | step _ hb ih => exact ih (by omega) (.more (by omega) (by rw [Nat.min_eq_left ha]; exact hb) hc)
theorem Chain.two {l : List Sp} {f : Nat → Nat} {s n a : Nat} (h : Chain l f s n a) (hs : 0 < s) (hn : a + s < n) : Bk l f a (a + s) ∧ Bk l f (a + s) (min (a + s + s) n) ∧ Chain l f s n (a + s + s) := by
  cases h with
  | done h => omega
  | more h1 hb hc =>
    rw [Nat.min_eq_left (by omega)] at hb
    cases hc with
    | done h => omega
    | more h2 hb2 hc2 => exact ⟨hb, hb2, hc2⟩
theorem Chain.one {l : List Sp} {f : Nat → Nat} {s n a : Nat} (h : Chain l f s n a) (hn : n ≤ a + s) : Chain l f (s + s) n a := by
  cases h with
  | done h => exact .done h
  | more h1 hb hc =>
    rw [Nat.min_eq_right hn] at hb
    exact .more h1 (by rw [Nat.min_eq_right (by omega)]; exact hb) (.done (by omega))
theorem Chain.all {l : List Sp} {f : Nat → Nat} {s n : Nat} (h : Chain l f s n 0) (hs : n ≤ s) : Srt l f 0 n := by
  cases h with
  | done h => intro p q p1 p2 p3; omega
  | more h1 hb hc => rw [Nat.min_eq_right (by omega)] at hb; exact hb.srt
def Sorted (l : List Sp) (g cap : Nat) (cb : Nat → Nat) (z : Nat → Value) (w : World) (e : Ending) (w' : World) : Prop :=
  e = .returned (.tuple #[]) ∧ ∃ f, RowN w' g cap l.length cb z f ∧ All f l.length ∧ Srt l f 0 l.length ∧ w.grownBy w' (some g)
set_option maxRecDepth 100000 in
set_option maxHeartbeats 4000000 in
theorem stable_any (l : List Sp) (g cap : Nat) (cb : Nat → Nat) (z : Nat → Value) (w : World) (hR : RowN w g cap l.length cb z id) (hT : TsAt w g l cb) (hc : l.length ≤ cap) (hn : l.length ≤ 100000) (ht : ∀ i, i < l.length → -1 ≤ (sp l i).2.2) :
    Calls Try.prog 73 #[.slice (some ⟨g, 0, none⟩) l.length cap, .int .i64 l.length, soonerV] w (Sorted l g cap cb z w) := by
  have R0 := Lib.hid hR
  have T0 := Lib.hid hT
  have HT := Lib.hid ht
  clear hR hT ht
  go_enter Try.func73, Try.ntmps73
  go_wp2_with fail
  go_loopw [7, 8] (fun av bv wr => ∃ (a : Nat) (f : Nat → Nat), a ≤ l.length ∧ av = .int .i64 a ∧ bv = .int .i64 ((a + 20 : Nat) : Int) ∧ RowN wr g cap l.length cb z f ∧ Upto l f 20 a ∧ (∀ p, a ≤ p → f p = p) ∧ All f l.length ∧ w.grownBy wr (some g)) (fun _ bv _ => l.length + 1 - (intOf bv).toNat)
  case atStart => exact ⟨0, id, Nat.zero_le _, rfl, rfl, R0.out, .zero, fun _ _ => rfl, ⟨fun p hp => hp, fun q hq => ⟨q, hq, rfl⟩⟩, grown_refl _ _⟩
  case round =>
    clear R0
    obtain ⟨a, f, ha, rfl, rfl, hR, hU, hid, hA, hG⟩ := hrel
    have R1 := Lib.hid hR
    have U1 := Lib.hid hU
    have I1 := Lib.hid hid
    have A1 := Lib.hid hA
    have G1 := Lib.hid hG
    clear hR hU hid hA hG
    obtain ⟨b, hb⟩ : ∃ b, b = a + 20 := ⟨_, rfl⟩
    have hb1 : a ≤ b := by omega
    have HB := Lib.hid hb
    rw [← hb]
    by_cases hlt : b ≤ l.length
    · have i0 : (b : Int) ≤ l.length := by omega
      clear hb
      go_wp2_with fail
      refine (insort_any l g cap l.length cb z f a b wr R1.out (T0.out.grown G1.out) hc hn A1.out.lt HT.out hb1 hlt (fun p q p1 p2 p3 => by rw [I1.out p p1, I1.out q (by omega)]; exact p2)).mono ?_
      rintro e w1 ⟨rfl, f2, hR2, hX, hS, hG2⟩
      have R2 := Lib.hid hR2
      have U2 := Lib.hid (show Upto l f2 20 (a + 20) from .step (U1.out.rr hX (Nat.le_refl _)) (by rw [← HB.out]; exact Bk.first (fun p p1 p2 => I1.out p p1) hX hS))
      have I2 := Lib.hid (show ∀ p, b ≤ p → f2 p = p from fun p p1 => by rw [hX.out p (.inr p1)]; exact I1.out p (by omega))
      have A2 := Lib.hid (A1.out.rr hX hlt)
      have G2 := Lib.hid (grown_trans G1.out hG2)
      clear hR2 hX hS hG2 R1 U1 I1 A1 G1
      have i1 : (b : Int) + 20 ≤ 200000 := by omega
      go_wp2_with fail
      go_roundw
      case rel => exact ⟨b, f2, hlt, rfl, by go_num, R2.out, by rw [HB.out]; exact U2.out, I2.out, A2.out, G2.out⟩
      case measure => simp [intOf]; omega
    · have i0 : ¬ (b : Int) ≤ l.length := by omega
      have hbn : l.length < a + 20 := by omega
      clear hb
      go_wp2_with fail
      refine (insort_any l g cap l.length cb z f a l.length wr R1.out (T0.out.grown G1.out) hc hn A1.out.lt HT.out ha (Nat.le_refl _) (fun p q p1 p2 p3 => by rw [I1.out p p1, I1.out q (by omega)]; exact p2)).mono ?_
      rintro e w1 ⟨rfl, f2, hR2, hX, hS, hG2⟩
      have R2 := Lib.hid hR2
      have hB := Bk.first (fun p p1 p2 => I1.out p p1) hX hS
      have C2 := Lib.hid (show Chain l f2 20 l.length 0 from Upto.chain (U1.out.rr hX (Nat.le_refl _)) (by omega) ha (by
        by_cases e : a < l.length
        · exact .more e (by rw [Nat.min_eq_right (by omega)]; exact hB) (.done (by omega))
        · exact .done (by omega)))
      have A2 := Lib.hid (A1.out.rr hX (Nat.le_refl _))
      have G2 := Lib.hid (grown_trans G1.out hG2)
      clear hR2 hX hS hG2 R1 U1 I1 A1 G1 hB i0 HB hbn hb1 hlt
      go_wp2_with fail
      go_loopw [6] (fun sv wr => ∃ (s : Nat) (f : Nat → Nat), 0 < s ∧ s ≤ 200000 ∧ sv = .int .i64 s ∧ RowN wr g cap l.length cb z f ∧ Chain l f s l.length 0 ∧ All f l.length ∧ w.grownBy wr (some g)) (fun sv _ => l.length - (intOf sv).toNat)
      case atStart => exact ⟨20, f2, by omega, by omega, rfl, R2.out, C2.out, A2.out, G2.out⟩
      case round =>
        clear R2 C2 A2 G2
        obtain ⟨s, f3, hs, hs2, rfl, hR, hC, hA, hG⟩ := hrel
        have R3 := Lib.hid hR
        have C3 := Lib.hid hC
        have A3 := Lib.hid hA
        have G3 := Lib.hid hG
        clear hR hC hA hG
        by_cases hsn : s < l.length
        · have i0 : (s : Int) < l.length := by omega
          have i1 : (2 : Int) * s ≤ 400000 := by omega
          have i2 : (0 : Int) ≤ s := by omega
          go_wp2_with fail
          obtain ⟨wo, rfl⟩ : ∃ wo : World, wo = wr := ⟨_, rfl⟩
          go_loopw [7, 8] (fun av bv wr => ∃ (a b : Nat) (f : Nat → Nat), b = a + s + s ∧ a ≤ l.length ∧ av = .int .i64 a ∧ bv = .int .i64 b ∧ RowN wr g cap l.length cb z f ∧ Upto l f (s + s) a ∧ Chain l f s l.length a ∧ All f l.length ∧ w.grownBy wr (some g)) (fun _ bv _ => l.length + 1 - (intOf bv).toNat)
          case atStart => exact ⟨0, s + s, f3, by omega, Nat.zero_le _, rfl, (by congr 1; omega), R3.out, .zero, C3.out, A3.out, G3.out⟩
          case round =>
            clear R3 C3 A3 G3
            obtain ⟨a, b, f, hb, ha, rfl, rfl, hR, hU, hC, hA, hG⟩ := hrel
            have R1 := Lib.hid hR
            have U1 := Lib.hid hU
            have C1 := Lib.hid hC
            have A1 := Lib.hid hA
            have G1 := Lib.hid hG
            clear hR hU hC hA hG
            have HB := Lib.hid hb
            by_cases hlt : b ≤ l.length
            · have i3 : (b : Int) ≤ l.length := by omega
              obtain ⟨B1, B2, C2⟩ := C1.out.two hs (by omega)
              rw [Nat.min_eq_left (by omega), ← hb] at B2
              rw [← hb] at C2
              have C2' := Lib.hid C2
              have hmg := merge_any l g cap l.length cb z (b - a) f a (a + s) b wr (Nat.le_refl _) ⟨R1.out, T0.out.grown G1.out, hc, hn, A1.out.lt, HT.out, by omega, by omega, hlt, B1.srt, B2.srt, B1.lss B2⟩
              have MG := Lib.hid (fun f2 (hX : Rr f f2 a b) (hS : Srt l f2 a b) => Bk.merged B1 B2 (by omega) (by omega) hX hS)
              have q1 : ((a + s : Nat) : Int) = (a : Int) + s := by omega
              rw [q1] at hmg
              have hb2 : a ≤ b := by omega
              clear hb B1 B2 C2 q1
              have i4 : (a : Int) + s ≤ 400000 := by omega
              go_wp2_with fail
              refine hmg.mono ?_
              rintro e w1 ⟨rfl, f2, hR2, hX, hS, hG2⟩
              have R2 := Lib.hid hR2
              have U2 := Lib.hid (show Upto l f2 (s + s) b from by
                have := Upto.step (U1.out.rr hX (Nat.le_refl _)) (show Bk l f2 a (a + (s + s)) by rw [← Nat.add_assoc, ← HB.out]; exact MG.out f2 hX hS)
                rwa [← Nat.add_assoc, ← HB.out] at this)
              have CC := Lib.hid (C2'.out.rr hX (Nat.le_refl _))
              have A2 := Lib.hid (A1.out.rr hX hlt)
              have G2 := Lib.hid (grown_trans G1.out hG2)
              clear hR2 hX hS hG2 R1 U1 C1 A1 G1 hmg MG C2'
              go_wp2_with fail
              go_roundw
              case rel => exact ⟨b, b + s + s, f2, rfl, hlt, rfl, (by congr 1; omega), R2.out, U2.out, CC.out, A2.out, G2.out⟩
              case measure => simp [intOf]; omega
            · have i3 : ¬ (b : Int) ≤ l.length := by omega
              by_cases hm : a + s < l.length
              · obtain ⟨B1, B2, C2⟩ := C1.out.two hs hm
                rw [Nat.min_eq_right (by omega)] at B2
                have hmg := merge_any l g cap l.length cb z (l.length - a) f a (a + s) l.length wr (Nat.le_refl _) ⟨R1.out, T0.out.grown G1.out, hc, hn, A1.out.lt, HT.out, by omega, hm, Nat.le_refl _, B1.srt, B2.srt, B1.lss B2⟩
                have MG := Lib.hid (fun f2 (hX : Rr f f2 a l.length) (hS : Srt l f2 a l.length) => Bk.merged B1 B2 (by omega) (by omega) hX hS)
                have q1 : ((a + s : Nat) : Int) = (a : Int) + s := by omega
                rw [q1] at hmg
                have hbn : l.length < a + s + s := by omega
                clear hb B1 B2 C2 q1
                have i4 : (a : Int) + s ≤ 400000 := by omega
                have i5 : (a : Int) + s < l.length := by omega
                go_wp2_with fail
                refine hmg.mono ?_
                rintro e w1 ⟨rfl, f2, hR2, hX, hS, hG2⟩
                have R2 := Lib.hid hR2
                have CC := Lib.hid (show Chain l f2 (s + s) l.length 0 from Upto.chain (U1.out.rr hX (Nat.le_refl _)) (by omega) ha (.more (by omega) (by rw [Nat.min_eq_right (by omega)]; exact MG.out f2 hX hS) (.done (by omega))))
                have A2 := Lib.hid (A1.out.rr hX (Nat.le_refl _))
                have G2 := Lib.hid (grown_trans G1.out hG2)
                clear hR2 hX hS hG2 R1 U1 C1 A1 G1 hmg MG
                go_wp2_with fail
                go_roundw
                case rel => exact ⟨s + s, f2, by omega, by omega, (by congr 1; omega), R2.out, CC.out, A2.out, G2.out⟩
                case measure => simp [intOf]; omega
              · have CC := Lib.hid (show Chain l f (s + s) l.length 0 from Upto.chain U1.out (by omega) ha (C1.out.one (by omega)))
                have i4 : (a : Int) + s ≤ 400000 := by omega
                have i5 : ¬ (a : Int) + s < l.length := by omega
                clear hb
                go_wp2_with fail
                go_roundw
                case rel => exact ⟨s + s, f, by omega, by omega, (by congr 1; omega), R1.out, CC.out, A1.out, G1.out⟩
                case measure => simp [intOf]; omega
        · have i0 : ¬ (s : Int) < l.length := by omega
          have SS := Lib.hid (C3.out.all (by omega))
          go_wp2_with fail
          go_end0
          exact ⟨rfl, f3, R3.out, A3.out, SS.out, G3.out⟩
set_option maxHeartbeats 400000 in
theorem sort_calls (l : List Sp) (g cap : Nat) (cb : Nat → Nat) (z : Nat → Value) (w : World) (hR : RowN w g cap l.length cb z id) (hT : TsAt w g l cb) (hc : l.length ≤ cap) (hn : l.length ≤ 100000) (ht : ∀ i, i < l.length → -1 ≤ (sp l i).2.2) :
    Calls Try.prog 54 #[.slice (some ⟨g, 0, none⟩) l.length cap, soonerV] w (Sorted l g cap cb z w) := by
  have hs := stable_any l g cap cb z w hR hT hc hn ht
  clear hR hT ht
  go_enter Try.func54, Try.ntmps54
  go_wp2_with fail
  refine hs.mono ?_
  rintro e w1 ⟨rfl, h⟩
  clear hs
  go_wp2_with fail
  go_end0
  exact ⟨rfl, h⟩
end Go.Proofs.Ythmkmjoeceghiaa
