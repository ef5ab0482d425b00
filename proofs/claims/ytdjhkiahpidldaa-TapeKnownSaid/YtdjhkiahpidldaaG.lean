/- works. -/
import Derived.Test.YtdjhkiahpidldaaF
namespace Go.Proofs.Ytdjhkiahpidldaa
open Go.RowKit

attribute [local go_sem ↓] Go.wp_at_zero Go.wp_at_succ
/-- a slice written out -/
theorem isSl_lit {α : Type} {enc : α → Value} {w : World} {t : TypeId} {xs : List α} (h : xs.length ≤ 1000) {cs : Array Value} (hc : cs.toList = xs.map enc) : IsSl enc (w.alloc (.cells cs t)) (some ⟨w.heap.size, 0, none⟩) xs :=
  ⟨by omega, fun _ => ⟨w.heap.size, 0, rfl, fun i x hx => by
    rw [World.cell?, show (w.alloc _).heap[w.heap.size]? = _ from heap_alloc_new w _]
    have : cs[i]? = some (enc x) := by rw [← Array.getElem?_toList, hc, List.getElem?_map, hx]; rfl
    simpa using this⟩⟩
theorem script_at (b : List Int) (a : Option Addr) (len cap : Nat) (w : World) (hl : b.length = len) (hb : IsBytes b) (hI : IsSl encU w a b) (hcap : len ≤ cap) (hcm : cap ≤ 9223372036854775807) :
    Calls Try.prog 10 #[.slice a len cap] w fun e w' => ∃ v, e = .returned v ∧ IsScr w.heap.size w' v (scr b) ∧ Below w.heap.size w w' := by
  subst hl; exact script_any b a cap w hb hI hcap hcm
theorem eqints_at (xs ys : List Int) (r : Bool) (a c : Option Addr) (la lc ka kc : Nat) (w : World) (h1 : xs.length = la) (h2 : ys.length = lc) (hr : decide (xs = ys) = r) (hx : IsSl encI w a xs) (hy : IsSl encI w c ys) :
    Calls Try.prog 22 #[.slice a la ka, .slice c lc kc] w fun e w' => e = .returned (.bool r) ∧ Below w.heap.size w w' := by
  subst h1 h2 hr; exact eqints_any xs ys a c ka kc w hx hy
def wb2 : List Int := [0, 0, 7, 1, 15, 2, 1, 0, 3, 9, 4]
def wb3 : List Int := [9, 4, 0]
set_option maxRecDepth 100000 in
set_option maxHeartbeats 1000000 in
theorem works_any (w : World) : Calls Try.prog 14 #[] w fun e w' => e = .returned (.bool true) ∧ Below w.heap.size w w' := by
  have hsc1 : scr [] = ⟨1, 1, [[]], []⟩ := by kernel_rfl
  have hsc2 : scr wb2 = ⟨1, 8, [[(1, 2, 256, 3)]], [9, 4]⟩ := by kernel_rfl
  have hsc3 : scr wb3 = ⟨2, 1, [[], []], []⟩ := by kernel_rfl
  have H1 := Lib.hid hsc1
  have H2 := Lib.hid hsc2
  have H3 := Lib.hid hsc3
  clear hsc1 hsc2 hsc3
  go_enter Try.func14, Try.ntmps14
  go_wp2_with fail
  refine (script_at [] none 0 0 _ rfl (by intro x hx; cases hx) IsSl.nil (Nat.le_refl _) (by omega)).mono ?_
  rintro e w1 ⟨v, rfl, hs, hb⟩
  rw [H1.out] at hs
  obtain ⟨g1, c1, vp1, rfl, _, hl1, hp1⟩ := hs
  obtain ⟨ap1, cp1, rfl, _, _⟩ := owns_form hp1
  obtain ⟨la1, lc1, hc1, hi1⟩ := hl1 0 [] rfl
  have A1 := Lib.hid hc1
  have HB := Lib.hid hb
  clear hl1 hp1 hi1 hc1 hb
  dsimp only [List.length_cons, List.length_nil]
  go_wp2_with fail
  have T1 := Lib.hid ((Blk.new w1 #[.int .i64 1, .int .i64 1, .slice (some ⟨g1, 0, none⟩) 1 c1, .slice ap1 0 cp1] 27).alloc (.cells #[.int .u8 0, .int .u8 0, .int .u8 7, .int .u8 1, .int .u8 15, .int .u8 2, .int .u8 1, .int .u8 0, .int .u8 3, .int .u8 9, .int .u8 4] 5))
  have S2 := Lib.hid (isSl_lit (enc := encU) (w := w1.alloc (.cells #[.int .i64 1, .int .i64 1, .slice (some ⟨g1, 0, none⟩) 1 c1, .slice ap1 0 cp1] 27)) (t := 5) (xs := wb2) (by simp [wb2]) (cs := #[.int .u8 0, .int .u8 0, .int .u8 7, .int .u8 1, .int .u8 15, .int .u8 2, .int .u8 1, .int .u8 0, .int .u8 3, .int .u8 9, .int .u8 4]) rfl)
  have HB2 : Below w1.heap.size w1 ((w1.alloc (.cells #[.int .i64 1, .int .i64 1, .slice (some ⟨g1, 0, none⟩) 1 c1, .slice ap1 0 cp1] 27)).alloc (.cells #[.int .u8 0, .int .u8 0, .int .u8 7, .int .u8 1, .int .u8 15, .int .u8 2, .int .u8 1, .int .u8 0, .int .u8 3, .int .u8 9, .int .u8 4] 5)) := (by repeat (first | exact Below.refl _ _ | assumption | refine Below.setCell ?_ (by first | omega | (simp; done) | (simp; omega)) _ | refine Below.drew ?_ | refine Below.alloc ?_ (by first | omega | (simp; done) | (simp; omega)) _ | refine Below.trans ?_ (Below.mono (by assumption) (by first | omega | (simp; done) | (simp; omega)))))
  have hz : (w1.alloc (.cells #[.int .i64 1, .int .i64 1, .slice (some ⟨g1, 0, none⟩) 1 c1, .slice ap1 0 cp1] 27)).heap.size = w1.heap.size + 1 := by simp
  rw [hz] at S2
  replace A1 := Lib.hid (below_cell HB2 (Nat.le_refl _) A1.out)
  replace HB := Lib.hid (on HB.out HB2)
  clear hz HB2
  obtain ⟨V1, hV1⟩ : ∃ V1, V1 = w1.heap.size := ⟨_, rfl⟩
  rw [← hV1] at T1 S2 ⊢
  generalize (w1.alloc (.cells #[.int .i64 1, .int .i64 1, .slice (some ⟨g1, 0, none⟩) 1 c1, .slice ap1 0 cp1] 27)).alloc (.cells #[.int .u8 0, .int .u8 0, .int .u8 7, .int .u8 1, .int .u8 15, .int .u8 2, .int .u8 1, .int .u8 0, .int .u8 3, .int .u8 9, .int .u8 4] 5) = W2 at *
  clear hV1
  refine (script_at wb2 _ 11 11 _ rfl (by intro x hx; simp [wb2] at hx; omega) S2.out (Nat.le_refl _) (by omega)).mono ?_
  rintro e w2 ⟨v, rfl, hs, hb⟩
  rw [H2.out] at hs
  obtain ⟨g2, c2, vp2, rfl, _, hl2, hp2⟩ := hs
  obtain ⟨ap2, cp2, rfl, _, _⟩ := owns_form hp2
  obtain ⟨la2, lc2, hc2, hi2⟩ := hl2 0 [(1, 2, 256, 3)] rfl
  obtain ⟨d2, o2, rfl, hj2⟩ := hi2 (by simp)
  obtain ⟨r0, r1, r2, r3⟩ := hj2 0 _ rfl
  have P2 := Lib.hid (isSl_of_own (xs := [9, 4]) hp2 rfl)
  have A2 := Lib.hid hc2
  have R2 := Lib.hid (And.intro r0 (And.intro r1 (And.intro r2 r3)))
  have hV1 := T1.out.lt
  replace T1 := Lib.hid (show Blk w2 V1 _ _ from (hb.block V1 hV1).trans T1.out)
  replace A1 := Lib.hid (below_cell hb (Nat.le_refl _) A1.out)
  replace HB := Lib.hid (on HB.out hb)
  clear hl2 hp2 hi2 hj2 hc2 hb r0 r1 r2 r3 S2
  dsimp only [List.length_cons, List.length_nil]
  go_wp2_with fail
  have T2 := Lib.hid ((Blk.new w2 #[.int .i64 1, .int .i64 8, .slice (some ⟨g2, 0, none⟩) 1 c2, .slice ap2 2 cp2] 27).alloc (.cells #[.int .u8 9, .int .u8 4, .int .u8 0] 5))
  replace T1 := Lib.hid ((T1.out.alloc (.cells #[.int .i64 1, .int .i64 8, .slice (some ⟨g2, 0, none⟩) 1 c2, .slice ap2 2 cp2] 27)).alloc (.cells #[.int .u8 9, .int .u8 4, .int .u8 0] 5))
  have S3 := Lib.hid (isSl_lit (enc := encU) (w := w2.alloc (.cells #[.int .i64 1, .int .i64 8, .slice (some ⟨g2, 0, none⟩) 1 c2, .slice ap2 2 cp2] 27)) (t := 5) (xs := wb3) (by simp [wb3]) (cs := #[.int .u8 9, .int .u8 4, .int .u8 0]) rfl)
  have HB2 : Below w2.heap.size w2 ((w2.alloc (.cells #[.int .i64 1, .int .i64 8, .slice (some ⟨g2, 0, none⟩) 1 c2, .slice ap2 2 cp2] 27)).alloc (.cells #[.int .u8 9, .int .u8 4, .int .u8 0] 5)) := (by repeat (first | exact Below.refl _ _ | assumption | refine Below.setCell ?_ (by first | omega | (simp; done) | (simp; omega)) _ | refine Below.drew ?_ | refine Below.alloc ?_ (by first | omega | (simp; done) | (simp; omega)) _ | refine Below.trans ?_ (Below.mono (by assumption) (by first | omega | (simp; done) | (simp; omega)))))
  have hz : (w2.alloc (.cells #[.int .i64 1, .int .i64 8, .slice (some ⟨g2, 0, none⟩) 1 c2, .slice ap2 2 cp2] 27)).heap.size = w2.heap.size + 1 := by simp
  rw [hz] at S3
  replace A1 := Lib.hid (below_cell HB2 (Nat.le_refl _) A1.out)
  replace A2 := Lib.hid (below_cell HB2 (Nat.le_refl _) A2.out)
  replace R2 := Lib.hid (And.intro (below_cell HB2 (Nat.le_refl _) R2.out.1) (And.intro (below_cell HB2 (Nat.le_refl _) R2.out.2.1) (And.intro (below_cell HB2 (Nat.le_refl _) R2.out.2.2.1) (below_cell HB2 (Nat.le_refl _) R2.out.2.2.2))))
  replace P2 := Lib.hid (P2.out.below HB2)
  replace HB := Lib.hid (on HB.out HB2)
  clear hz HB2
  obtain ⟨V2, hV2⟩ : ∃ V2, V2 = w2.heap.size := ⟨_, rfl⟩
  rw [← hV2] at T2 S3 ⊢
  generalize (w2.alloc (.cells #[.int .i64 1, .int .i64 8, .slice (some ⟨g2, 0, none⟩) 1 c2, .slice ap2 2 cp2] 27)).alloc (.cells #[.int .u8 9, .int .u8 4, .int .u8 0] 5) = W3 at *
  clear hV2
  refine (script_at wb3 _ 3 3 _ rfl (by intro x hx; simp [wb3] at hx; omega) S3.out (Nat.le_refl _) (by omega)).mono ?_
  rintro e w3 ⟨v, rfl, hs, hb⟩
  rw [H3.out] at hs
  obtain ⟨g3, c3, vp3, rfl, _, hl3, hp3⟩ := hs
  obtain ⟨ap3, cp3, rfl, _, _⟩ := owns_form hp3
  have hV2 := T2.out.lt
  have hV1' := T1.out.lt
  replace T2 := Lib.hid (show Blk w3 V2 _ _ from (hb.block V2 hV2).trans T2.out)
  replace T1 := Lib.hid (show Blk w3 V1 _ _ from (hb.block V1 hV1').trans T1.out)
  replace P2 := Lib.hid (P2.out.below hb)
  replace HB := Lib.hid (on HB.out hb)
  have K := Lib.hid hb
  clear hl3 hp3 hb S3 hV1 hV1' hV2
  dsimp only [List.length_cons, List.length_nil]
  go_wp2_with fail
  have hal : Below w3.heap.size w3 (w3.alloc (.cells #[.int .i64 2, .int .i64 1, .slice (some ⟨g3, 0, none⟩) 2 c3, .slice ap3 0 cp3] 27)) := (by repeat (first | exact Below.refl _ _ | assumption | refine Below.setCell ?_ (by first | omega | (simp; done) | (simp; omega)) _ | refine Below.drew ?_ | refine Below.alloc ?_ (by first | omega | (simp; done) | (simp; omega)) _ | refine Below.trans ?_ (Below.mono (by assumption) (by first | omega | (simp; done) | (simp; omega)))))
  have T3 := Blk.new w3 #[.int .i64 2, .int .i64 1, .slice (some ⟨g3, 0, none⟩) 2 c3, .slice ap3 0 cp3] 27
  replace K := Lib.hid (on K.out hal)
  replace P2 := Lib.hid (P2.out.below hal)
  replace HB := Lib.hid (on HB.out hal)
  replace T1 := T1.out.alloc (.cells #[.int .i64 2, .int .i64 1, .slice (some ⟨g3, 0, none⟩) 2 c3, .slice ap3 0 cp3] 27)
  replace T2 := T2.out.alloc (.cells #[.int .i64 2, .int .i64 1, .slice (some ⟨g3, 0, none⟩) 2 c3, .slice ap3 0 cp3] 27)
  clear hal
  generalize w3.alloc (.cells #[.int .i64 2, .int .i64 1, .slice (some ⟨g3, 0, none⟩) 2 c3, .slice ap3 0 cp3] 27) = W4 at *
  generalize w3.heap.size = V3 at *
  have a1 := below_cell K.out (Nat.le_refl _) A1.out
  have a2 := below_cell K.out (Nat.le_refl _) A2.out
  have r0 := below_cell K.out (Nat.le_refl _) R2.out.1
  have r1 := below_cell K.out (Nat.le_refl _) R2.out.2.1
  have r2 := below_cell K.out (Nat.le_refl _) R2.out.2.2.1
  have r3 := below_cell K.out (Nat.le_refl _) R2.out.2.2.2
  have x0 := T1.cell (i := 0) rfl
  have x1 := T1.cell (i := 1) rfl
  have x2 := T1.cell (i := 2) rfl
  have x3 := T1.cell (i := 3) rfl
  have y0 := T2.cell (i := 0) rfl
  have y1 := T2.cell (i := 1) rfl
  have y2 := T2.cell (i := 2) rfl
  have y3 := T2.cell (i := 3) rfl
  have z0 := T3.cell (i := 0) rfl
  have z1 := T3.cell (i := 1) rfl
  have z2 := T3.cell (i := 2) rfl
  have z3 := T3.cell (i := 3) rfl
  simp at x0 x1 x2 x3 y0 y1 y2 y3 z0 z1 z2 z3 a1 a2 r0 r1 r2 r3
  have HT3 := Lib.hid T3
  have eq44 := eql44 (x0 := 1) (x1 := 2) (x2 := 256) (x3 := 3) (y0 := 1) (y1 := 2) (y2 := 256) (y3 := 3) true (by decide)
  clear A1 A2 R2 T1 T2 T3 K
  go_quiet (fail)
  go_wp2_with fail
  have S4 := isSl_lit (enc := encI) (w := W4.drewN nq) (t := 3) (xs := [9, 4]) (by simp) (cs := #[.int .i64 9, .int .i64 4]) rfl
  have hbd : Below W4.heap.size W4 ((W4.drewN nq).alloc (.cells #[.int .i64 9, .int .i64 4] 3)) := (below_drewN (Below.refl _ _) nq).alloc (by simp) _
  refine (eqints_at [9, 4] [9, 4] true _ _ _ _ _ _ _ rfl rfl (by decide) (P2.out.below hbd) S4).mono ?_
  rintro e w5 ⟨rfl, hb⟩
  have K5 := on hbd hb
  have HB5 := on HB.out K5
  have z0 := below_cell K5 (Nat.le_refl _) z0
  have z1 := below_cell K5 (Nat.le_refl _) z1
  have z2 := below_cell K5 (Nat.le_refl _) z2
  have z3 := below_cell K5 (Nat.le_refl _) z3
  clear S4 hbd hb K5 x0 x1 x2 x3 y0 y1 y2 y3 a1 a2 r0 r1 r2 r3
  go_wp2_with fail
  go_ret
  exact ⟨rfl, HB5⟩
end Go.Proofs.Ytdjhkiahpidldaa
