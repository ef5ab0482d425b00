/- The readers of tape and of its reference. -/
import Derived.Test.YtdjhkiahpidldaaK
import Derived.Laws.AppendOwn
import Derived.Below
import Derived.Laws.BitsLemmas
namespace Go.Proofs.Ytdjhkiahpidldaa
open Go.RowKit

abbrev encI : Int → Value := .int .i64
abbrev encU : Int → Value := .int .u8
/-- the p-th byte; 0: there is none -/
def bt (b : List Int) (p : Nat) : Int := b[p]?.getD 0
def IsBytes (b : List Int) : Prop := ∀ x ∈ b, 0 ≤ x ∧ x ≤ 255
theorem bt_bd {b : List Int} (h : IsBytes b) (p : Nat) : 0 ≤ bt b p ∧ bt b p ≤ 255 := by
  unfold bt
  cases hp : b[p]? with
  | none => simp
  | some x => exact h x (List.mem_of_getElem? hp)
theorem bt_some {b : List Int} {p : Nat} {x : Int} (h : b[p]? = some x) : bt b p = x := by unfold bt; rw [h]; rfl
theorem bt_none {b : List Int} {p : Nat} (h : b.length ≤ p) : bt b p = 0 := by unfold bt; rw [List.getElem?_eq_none h]; rfl

/-- THE READER OF tape AT R, p BYTES READ OF b (that lies at a0 in w0). -/
structure Rd (w0 : World) (a0 : Option Addr) (b : List Int) (R : Nat) (p : Nat) (w : World) : Prop where
  hR : w0.heap.size ≤ R
  hlt : R < w.heap.size
  hw : Below w0.heap.size w0 w
  hfr : w.frozen? ⟨R, 0, none⟩ = false
  hc : ∃ a cap, w.cell? ⟨R, 0, none⟩ = some (.slice a (b.length - p) cap) ∧ b.length - p ≤ cap ∧ cap ≤ 9223372036854775807 ∧ (p < b.length → ∃ blk off, a0 = some ⟨blk, off, none⟩ ∧ a = some ⟨blk, off + p, none⟩)

/-- nothing else than the cells of R is written, and nothing is made -/
structure Only (R : Nat) (w w' : World) : Prop where
  g : w.grownBy w' (some R)
  s : w'.heap.size = w.heap.size

theorem Only.refl (R : Nat) (w : World) : Only R w w := ⟨⟨rfl, rfl, rfl, Nat.le_refl _, fun _ _ _ => rfl⟩, rfl⟩
theorem Only.trans {R : Nat} {a b c : World} (h : Only R a b) (k : Only R b c) : Only R a c :=
  ⟨⟨k.g.os.trans h.g.os, k.g.tape.trans h.g.tape, k.g.output.trans h.g.output, Nat.le_trans h.g.size k.g.size, fun i hi hn => (k.g.block i (by rw [h.s]; exact hi) hn).trans (h.g.block i hi hn)⟩, k.s.trans h.s⟩
theorem Only.set (R o : Nat) (w : World) (v : Value) : Only R w (w.setCell ⟨R, o, none⟩ v) :=
  ⟨⟨rfl, rfl, rfl, by simp, fun i _ hn => Below.heap_setCell _ _ _ _ (fun e => hn (by rw [e]))⟩, by simp⟩
theorem Only.drewN {R : Nat} {a b : World} (h : Only R a b) (n : Nat) : Only R a (b.drewN n) := ⟨⟨h.g.os, h.g.tape, h.g.output, h.g.size, h.g.block⟩, h.s⟩

theorem cell_set_ne {w : World} {g o o' : Nat} {u v : Value} (h : w.cell? ⟨g, o, none⟩ = some u) (hn : o ≠ o') : (w.setCell ⟨g, o', none⟩ v).cell? ⟨g, o, none⟩ = some u := by
  rw [World.cell?_setCell_other _ _ _ _ (by intro e; cases e; exact hn rfl)]; exact h
theorem set_same {w : World} {g i : Nat} {u : Value} (h : w.cell? ⟨g, i, none⟩ = some u) (v : Value) : (w.setCell ⟨g, i, none⟩ v).cell? ⟨g, i, none⟩ = some v := World.cell?_setCell_same _ _ _ h
theorem below_drewN {B : Nat} {a w : World} (h : Below B a w) (n : Nat) : Below B a (w.drewN n) := h.trans ⟨rfl, rfl, rfl, Nat.le_refl _, fun _ _ => rfl⟩
set_option maxRecDepth 100000 in
set_option maxHeartbeats 400000 in
theorem one_any (w0 : World) (a0 : Option Addr) (b : List Int) (R p : Nat) (w : World) (hb : IsBytes b) (hI : IsSl encU w0 a0 b) (h : Rd w0 a0 b R p w) :
    Calls Try.prog 23 #[.pointer (some ⟨R, 0, none⟩)] w fun e w' => e = .returned (.int .i64 (bt b p)) ∧ Rd w0 a0 b R (p + 1) w' ∧ Only R w w' := by
  obtain ⟨a, cap, hc, hcap, hcm, ha⟩ := h.hc
  have hlen := hI.len
  by_cases hp : p < b.length
  · obtain ⟨blk, off, rfl, rfl⟩ := ha hp
    obtain ⟨b1, off1, x, hee, hx, hcx⟩ := (hI.below h.hw).at hp
    cases hee
    have hxb := hb x (List.mem_of_getElem? hx)
    have hfr := h.hfr
    have hBT := Lib.hid (bt_some hx)
    have H := Lib.hid h
    have hne : (((b.length - p : Nat) : Int) == 0) = false := beq_eq_false_iff_ne.2 (by omega)
    clear h hx ha
    go_enter Try.func23, Try.ntmps23
    go_wp2_with fail
    all_goals
      (go_ret)
      refine ⟨ret1 hBT.out.symm, ⟨H.out.hR, ?_, H.out.hw.setCell H.out.hR _, ?_, _, _, set_same hc _, ?_, ?_, ?_⟩, Only.set _ _ _ _⟩
      · simpa using H.out.hlt
      · simpa using hfr
      · omega
      · omega
      · first
        | exact fun hh => by omega
        | exact fun hh => ⟨blk, off, rfl, by rw [Nat.add_assoc]⟩
  · have hBT := Lib.hid (bt_none (b := b) (p := p) (by omega))
    have hz : b.length - p = 0 := by omega
    rw [hz] at hc
    have H := Lib.hid h
    clear h ha
    go_enter Try.func23, Try.ntmps23
    go_wp2_with fail
    go_ret
    refine ⟨ret1 hBT.out.symm, ⟨H.out.hR, H.out.hlt, H.out.hw, H.out.hfr, a, cap, ?_, ?_, hcm, fun hh => ?_⟩, Only.refl _ _⟩
    · rw [hc, show b.length - (p + 1) = 0 by omega]
    · omega
    · omega

theorem wraps_i64 (n : Int) (h₀ : 0 ≤ n) (h₁ : n < 2 ^ 63) : IntKind.i64.wrap n = n := by rw [IntKind.wrap_i64]; omega
theorem or_bytes {h l : Int} (hh : 0 ≤ h ∧ h ≤ 255) (hl : 0 ≤ l ∧ l ≤ 255) : bits .or .i64 (h * 256) l = h * 256 + l :=
  bits_join .i64 63 (by decide) wraps_i64 8 (h * 256) l (by omega) (by omega) (by omega) (by omega) (by omega) (by omega)

set_option maxRecDepth 100000 in
set_option maxHeartbeats 400000 in
theorem two_any (w0 : World) (a0 : Option Addr) (b : List Int) (R p : Nat) (w : World) (hb : IsBytes b) (hI : IsSl encU w0 a0 b) (h : Rd w0 a0 b R p w) :
    Calls Try.prog 24 #[.pointer (some ⟨R, 0, none⟩)] w fun e w' => e = .returned (.int .i64 (bt b p * 256 + bt b (p + 1))) ∧ Rd w0 a0 b R (p + 2) w' ∧ Only R w w' := by
  have H := Lib.hid h
  have HI := Lib.hid hI
  have h1 := bt_bd hb p
  have h2 := bt_bd hb (p + 1)
  clear h hI
  go_enter Try.func24, Try.ntmps24
  go_wp2_with fail
  refine (one_any w0 a0 b R p w hb HI.out H.out).mono ?_
  rintro e w1 ⟨rfl, hr, ho⟩
  have H1 := Lib.hid hr
  have O1 := Lib.hid ho
  clear hr ho
  go_wp2_with fail
  refine (one_any w0 a0 b R (p + 1) w1 hb HI.out H1.out).mono ?_
  rintro e w2 ⟨rfl, hr, ho⟩
  have H2 := Lib.hid hr
  have O2 := Lib.hid (O1.out.trans ho)
  clear hr ho
  go_wp2_with fail
  go_ret
  exact ⟨ret1 (or_bytes h1 h2), H2.out, O2.out⟩

/-- THE READER OF THE REFERENCE AT R. -/
structure Rr (w0 : World) (a0 : Option Addr) (b : List Int) (cap0 : Nat) (R : Nat) (p : Nat) (w : World) : Prop where
  hR : w0.heap.size ≤ R
  hlt : R < w.heap.size
  hw : Below w0.heap.size w0 w
  hfr : w.frozen? ⟨R, 1, none⟩ = false
  hc0 : w.cell? ⟨R, 0, none⟩ = some (.slice a0 b.length cap0)
  hc1 : w.cell? ⟨R, 1, none⟩ = some (.int .i64 ((min p b.length : Nat) : Int))

set_option maxRecDepth 100000 in
set_option maxHeartbeats 400000 in
theorem rone_any (w0 : World) (a0 : Option Addr) (b : List Int) (cap0 R p : Nat) (w : World) (hb : IsBytes b) (hI : IsSl encU w0 a0 b) (h : Rr w0 a0 b cap0 R p w) :
    Calls Try.prog 25 #[.pointer (some ⟨R, 0, none⟩)] w fun e w' => e = .returned (.int .i64 (bt b p)) ∧ Rr w0 a0 b cap0 R (p + 1) w' ∧ Only R w w' := by
  have c0 := h.hc0
  have c1 := h.hc1
  have hlen := hI.len
  have hfr := h.hfr
  have H := Lib.hid h
  by_cases hp : p < b.length
  · obtain ⟨blk, off, x, rfl, hx, hcx⟩ := (hI.below h.hw).at hp
    have hxb := hb x (List.mem_of_getElem? hx)
    have hBT := Lib.hid (bt_some hx)
    rw [Nat.min_eq_left (by omega)] at c1
    have hbk := Lib.hid (show blk ≠ R by have := World.block_lt_of_cell? w0 _ (hI.2 (by intro e; rw [e] at hp; simp at hp) |>.elim fun b h => h.elim fun o h => by cases h.1; exact h.2 p x hx); have := h.hR; simp at *; omega)
    clear h hx hI
    go_enter Try.func25, Try.ntmps25
    go_wp2_with fail
    go_quiet (fail)
    go_wp2_with fail
    have d0 := cell_set_ne (o' := 1) (v := .int .i64 ((p : Int) + 1)) (show (w.drewN nq).cell? ⟨R, 0, none⟩ = _ from c0) (by decide)
    have d1 := set_same (show (w.drewN nq).cell? ⟨R, 1, none⟩ = _ from c1) (.int .i64 ((p : Int) + 1))
    have d2 : ((w.drewN nq).setCell ⟨R, 1, none⟩ (.int .i64 ((p : Int) + 1))).cell? ⟨blk, off + p, none⟩ = some (encU x) := by
      rw [World.cell?_setCell_other _ _ _ _ (by intro e; have := congrArg Addr.block e; exact hbk.out this.symm)]; exact hcx
    have BW := Lib.hid ((below_drewN H.out.hw nq).setCell (p := ⟨R, 1, none⟩) H.out.hR (.int .i64 ((p : Int) + 1)))
    have OW := Lib.hid (((Only.refl R w).drewN nq).trans (Only.set R 1 _ (.int .i64 ((p : Int) + 1))))
    have hfr' : ((w.drewN nq).setCell ⟨R, 1, none⟩ (.int .i64 ((p : Int) + 1))).frozen? ⟨R, 1, none⟩ = false := by simpa using hfr
    clear c0 c1 hcx hfr
    generalize (w.drewN nq).setCell ⟨R, 1, none⟩ (.int .i64 ((p : Int) + 1)) = W at *
    have D0 := Lib.hid d0
    have D1 := Lib.hid d1
    have FR := Lib.hid hfr'
    clear hfr'
    go_quiet (fail)
    go_wp2_with fail
    go_ret
    refine ⟨ret1 hBT.out.symm, ⟨H.out.hR, ?_, below_drewN BW.out _, FR.out, D0.out, ?_⟩, OW.out.drewN _⟩
    · show R < W.heap.size
      rw [OW.out.s]; exact H.out.hlt
    · rw [Nat.min_eq_left (by omega)]; simpa using D1.out
  · have hBT := Lib.hid (bt_none (b := b) (p := p) (by omega))
    rw [Nat.min_eq_right (by omega)] at c1
    have C1 := Lib.hid c1
    clear h hI
    go_enter Try.func25, Try.ntmps25
    go_wp2_with fail
    go_quiet (fail)
    go_wp2_with fail
    go_ret
    refine ⟨ret1 hBT.out.symm, ⟨H.out.hR, H.out.hlt, below_drewN H.out.hw _, H.out.hfr, H.out.hc0, ?_⟩, (Only.refl _ _).drewN _⟩
    rw [Nat.min_eq_right (by omega)]; exact C1.out
end Go.Proofs.Ytdjhkiahpidldaa
