/- Two scripts in memory compared. -/
import Derived.Test.YtdjhkiahpidldaaD
import Derived.Test.YtdjhkiahpidldaaE
import Derived.Laws.StructEq
namespace Go.Proofs.Ytdjhkiahpidldaa
open Go.RowKit

attribute [local go_sem ↓] Go.wp_at_zero Go.wp_at_succ
/-- v reads as the script s -/
structure ScrAt (w : World) (v : Value) (s : Scr) : Prop where
  val : ∃ a capc ap capp, v = .agg #[.int .i64 s.cpus, .int .i64 s.pages, .slice a s.calls.length capc, .slice ap s.picks.length capp] ∧
    (s.calls ≠ [] → ∃ g off, a = some ⟨g, off, none⟩ ∧ ∀ (i : Nat) (l : List Cl), s.calls[i]? = some l → IsList w ⟨g, off + i, none⟩ l) ∧ IsSl encI w ap s.picks
  lc : s.calls.length ≤ 9223372036854775807
  ll : ∀ l ∈ s.calls, l.length ≤ 9223372036854775807
theorem IsCalls.below {w w' : World} {a : Option Addr} {l : List Cl} (h : IsCalls w a l) (hb : Below w.heap.size w w') : IsCalls w' a l := h.keep fun _ _ _ _ hc => below_cell hb (Nat.le_refl _) hc
theorem IsList.below {w w' : World} {g i : Nat} {l : List Cl} (h : IsList w ⟨g, i, none⟩ l) (hb : Below w.heap.size w w') : IsList w' ⟨g, i, none⟩ l := by
  obtain ⟨a, cap, hc, hl⟩ := h
  exact ⟨a, cap, below_cell hb (Nat.le_refl _) hc, hl.below hb⟩
theorem ScrAt.below {w w' : World} {v : Value} {s : Scr} (h : ScrAt w v s) (hb : Below w.heap.size w w') : ScrAt w' v s := by
  obtain ⟨a, cc, ap, cp, rfl, h1, h2⟩ := h.val
  exact ⟨⟨a, cc, ap, cp, rfl, fun hne => by obtain ⟨g, off, ha, hl⟩ := h1 hne; exact ⟨g, off, ha, fun i l hi => (hl i l hi).below hb⟩, h2.below hb⟩, h.lc, h.ll⟩
theorem isSl_of_own {α : Type} {enc : α → Value} {w : World} {base : Nat} {e : TypeId} {a : Option Addr} {n cap : Nat} {xs : List α} (h : w.ownsRow base e 1 (.slice a n cap) n (xs.map enc)) (hl : xs.length = n) : IsSl enc w a xs := by
  subst hl
  obtain ⟨a', cap', hv, hs, _⟩ := isSl_of_owns h
  cases hv
  exact hs
theorem scr_calls_bd (b : List Int) (h : IsBytes b) : (scr b).calls.length ≤ 8 ∧ ∀ l ∈ (scr b).calls, l.length < 65 := by
  refine ⟨by simpa [scr] using (cpusN_bd h).2.2, fun l hl => ?_⟩
  simp only [scr, List.mem_map] at hl
  obtain ⟨i, _, rfl⟩ := hl
  have := (nAt_bd h (pos b i)).2
  simpa [listAt, callsFrom_len] using this
theorem IsScr.at {base : Nat} {w : World} {v : Value} {b : List Int} (h : IsScr base w v (scr b)) (hb : IsBytes b) : ScrAt w v (scr b) := by
  obtain ⟨g, cc, vp, rfl, hg, hl, hp⟩ := h
  obtain ⟨ap, cp, rfl, _, _⟩ := owns_form hp
  have hbd := scr_calls_bd b hb
  exact ⟨⟨some ⟨g, 0, none⟩, cc, ap, cp, rfl, fun _ => ⟨g, 0, rfl, fun i l hi => by rw [Nat.zero_add]; exact hl i l hi⟩, isSl_of_own hp rfl⟩, by omega, fun l hl => by have := hbd.2 l hl; omega⟩

def sameB (s t : Scr) : Bool := decide (s.cpus = t.cpus) && decide (s.pages = t.pages) && decide (s.calls = t.calls) && decide (s.picks = t.picks)
theorem sameB_iff (s t : Scr) : sameB s t = true ↔ s = t := by
  cases s; cases t
  simp [sameB, and_assoc]
theorem sameB_refl (s : Scr) : sameB s s = true := (sameB_iff s s).2 rfl

theorem cmp44 (x y : Cl) (w : World) : (Op.equalIn 10000 44 (.agg #[.int .i64 x.1, .int .i64 x.2.1, .int .i64 x.2.2.1, .int .i64 x.2.2.2]) (.agg #[.int .i64 y.1, .int .i64 y.2.1, .int .i64 y.2.2.1, .int .i64 y.2.2.2])).run Try.prog w = .ok (decide (x = y)) w := by
  have u3 := Try.underlying3
  have hS : Try.prog.underlying 44 = some (.struct (Try.prog.fieldsOf 44)) := by kernel_rfl
  have hp : Try.prog.stoodInHeld 44 = false := by kernel_rfl
  rw [show (10000 : Nat) = 9999 + 1 from rfl, run_equalIn_agg w 9999 44 _ _ hS hp]
  simp only [Program.fieldsOf, Try.underlying44]
  obtain ⟨x0, x1, x2, x3⟩ := x
  obtain ⟨y0, y1, y2, y3⟩ := y
  go_simp
  by_cases h0 : x0 = y0 <;> by_cases h1 : x1 = y1 <;> by_cases h2 : x2 = y2 <;> by_cases h3 : x3 = y3 <;> simp [h0, h1, h2, h3]
theorem neq44 {x0 x1 x2 x3 y0 y1 y2 y3 : Int} (b : Bool) (h : decide ((x0, x1, x2, x3) = (y0, y1, y2, y3)) = !b) (w : World) : (binOp .neq 44 (.agg #[.int .i64 x0, .int .i64 x1, .int .i64 x2, .int .i64 x3]) (.agg #[.int .i64 y0, .int .i64 y1, .int .i64 y2, .int .i64 y3])).run Try.prog w = .ok (.bool b) w := by
  rw [run_neq_struct, cmp44 (x0, x1, x2, x3) (y0, y1, y2, y3) w, h]; simp [Result.andThen]
theorem eql44 {x0 x1 x2 x3 y0 y1 y2 y3 : Int} (b : Bool) (h : decide ((x0, x1, x2, x3) = (y0, y1, y2, y3)) = b) (w : World) : (binOp .eql 44 (.agg #[.int .i64 x0, .int .i64 x1, .int .i64 x2, .int .i64 x3]) (.agg #[.int .i64 y0, .int .i64 y1, .int .i64 y2, .int .i64 y3])).run Try.prog w = .ok (.bool b) w := by
  rw [run_eql_struct, cmp44 (x0, x1, x2, x3) (y0, y1, y2, y3) w, h]; simp [Result.andThen]
set_option maxRecDepth 100000 in
set_option maxHeartbeats 2000000 in
theorem same11_any (v1 v2 : Value) (s t : Scr) (w : World) (h1 : ScrAt w v1 s) (h2 : ScrAt w v2 t) :
    Calls Try.prog 11 #[v1, v2] w fun e w' => e = .returned (.bool (sameB s t)) ∧ Below w.heap.size w w' := by
  obtain ⟨a1, cc1, ap1, cp1, rfl, hl1, hp1⟩ := h1.val
  obtain ⟨a2, cc2, ap2, cp2, rfl, hl2, hp2⟩ := h2.val
  have hc1 := h1.lc
  have hc2 := h2.lc
  have L1 := Lib.hid h1.ll
  have L2 := Lib.hid h2.ll
  have P1 := Lib.hid hp1
  have P2 := Lib.hid hp2
  have C1 := Lib.hid hl1
  have C2 := Lib.hid hl2
  clear h1 h2 hl1 hl2 hp1 hp2
  have HW : Below w.heap.size w ((w.alloc (.cells #[.int .i64 s.cpus, .int .i64 s.pages, .slice a1 s.calls.length cc1, .slice ap1 s.picks.length cp1] 27)).alloc (.cells #[.int .i64 t.cpus, .int .i64 t.pages, .slice a2 t.calls.length cc2, .slice ap2 t.picks.length cp2] 27)) := (by repeat (first | exact Below.refl _ _ | assumption | refine Below.setCell ?_ (by first | omega | (simp; done) | (simp; omega)) _ | refine Below.drew ?_ | refine Below.alloc ?_ (by first | omega | (simp; done) | (simp; omega)) _ | refine Below.trans ?_ (Below.mono (by assumption) (by first | omega | (simp; done) | (simp; omega)))))
  by_cases e1 : s.cpus = t.cpus
  · have e1' : (s.cpus != t.cpus) = false := by simpa using e1
    have E1 := Lib.hid e1
    by_cases e2 : s.pages = t.pages
    · have e2' : (s.pages != t.pages) = false := by simpa using e2
      have E2 := Lib.hid e2
      by_cases e3 : s.calls.length = t.calls.length
      · have e3' : ((s.calls.length : Int) != (t.calls.length : Int)) = false := by simp; omega
        have hll : s.calls.length ≤ t.calls.length := by omega
        have E3 := Lib.hid e3
        clear e1 e2 e3
        go_enter Try.func11, Try.ntmps11
        go_wp2_with fail
        refine (eqints_any s.picks t.picks ap1 ap2 cp1 cp2 _ (P1.out.below HW) (P2.out.below HW)).mono ?_
        have k1 : ((w.alloc (.cells #[.int .i64 s.cpus, .int .i64 s.pages, .slice a1 s.calls.length cc1, .slice ap1 s.picks.length cp1] 27)).alloc (.cells #[.int .i64 t.cpus, .int .i64 t.pages, .slice a2 t.calls.length cc2, .slice ap2 t.picks.length cp2] 27)).cell? ⟨w.heap.size, 2, none⟩ = some (.slice a1 s.calls.length cc1) := by simp
        have k2 : ((w.alloc (.cells #[.int .i64 s.cpus, .int .i64 s.pages, .slice a1 s.calls.length cc1, .slice ap1 s.picks.length cp1] 27)).alloc (.cells #[.int .i64 t.cpus, .int .i64 t.pages, .slice a2 t.calls.length cc2, .slice ap2 t.picks.length cp2] 27)).cell? ⟨w.heap.size + 1, 2, none⟩ = some (.slice a2 t.calls.length cc2) := by simp
        generalize (w.alloc (.cells #[.int .i64 s.cpus, .int .i64 s.pages, .slice a1 s.calls.length cc1, .slice ap1 s.picks.length cp1] 27)).alloc (.cells #[.int .i64 t.cpus, .int .i64 t.pages, .slice a2 t.calls.length cc2, .slice ap2 t.picks.length cp2] 27) = W0 at *
        rintro e w1 ⟨rfl, hb⟩
        have K1 := Lib.hid (below_cell hb (Nat.le_refl _) k1)
        have K2 := Lib.hid (below_cell hb (Nat.le_refl _) k2)
        have HB := on HW hb
        have D1 := Lib.hid (show s.calls ≠ [] → ∃ g off, a1 = some ⟨g, off, none⟩ ∧ ∀ (i : Nat) (l : List Cl), s.calls[i]? = some l → IsList w1 ⟨g, off + i, none⟩ l from fun hne => by obtain ⟨g, off, ha, hl⟩ := C1.out hne; exact ⟨g, off, ha, fun i l hi => (hl i l hi).below HB⟩)
        have D2 := Lib.hid (show t.calls ≠ [] → ∃ g off, a2 = some ⟨g, off, none⟩ ∧ ∀ (i : Nat) (l : List Cl), t.calls[i]? = some l → IsList w1 ⟨g, off + i, none⟩ l from fun hne => by obtain ⟨g, off, ha, hl⟩ := C2.out hne; exact ⟨g, off, ha, fun i l hi => (hl i l hi).below HB⟩)
        have HB1 := Lib.hid HB
        clear hb k1 k2 HW HB C1 C2 P1 P2
        generalize w.heap.size = V at K1 K2 ⊢
        by_cases e4 : s.picks = t.picks
        · have E4 := Lib.hid e4
          have e4' : decide (s.picks = t.picks) = true := by simpa using e4
          clear e4
          go_wp2_with fail
          clear e1' e2' e3' e4'
          go_loopw [5] (fun i wr => ∃ k : Nat, k ≤ s.calls.length ∧ i = .int .i64 k ∧ (∀ j, j < k → s.calls[j]? = t.calls[j]?) ∧ Below w1.heap.size w1 wr) (fun i _ => s.calls.length - (intOf i).toNat)
          case atStart => exact ⟨0, Nat.zero_le _, rfl, fun j hj => by omega, Below.refl _ _⟩
          case round =>
            obtain ⟨k, hk, rfl, hE, hb⟩ := hrel
            have HE := Lib.hid hE
            have HB := Lib.hid hb
            have q1 := below_cell hb (Nat.le_refl _) K1.out
            have q2 := below_cell hb (Nat.le_refl _) K2.out
            clear hE hb
            by_cases hlt : k < s.calls.length
            · have hlt2 : k < t.calls.length := by omega
              obtain ⟨g1, o1, rfl, hL1⟩ := D1.out (by intro e; rw [e] at hlt; simp at hlt)
              obtain ⟨g2, o2, rfl, hL2⟩ := D2.out (by intro e; rw [e] at hlt2; simp at hlt2)
              obtain ⟨l1, hl1⟩ : ∃ l, s.calls[k]? = some l := ⟨_, List.getElem?_eq_getElem hlt⟩
              obtain ⟨l2, hl2⟩ : ∃ l, t.calls[k]? = some l := ⟨_, List.getElem?_eq_getElem hlt2⟩
              obtain ⟨b1, f1, c1, hI1⟩ := hL1 k l1 hl1
              obtain ⟨b2, f2, c2, hI2⟩ := hL2 k l2 hl2
              have m1 := L1.out l1 (List.mem_of_getElem? hl1)
              have m2 := L2.out l2 (List.mem_of_getElem? hl2)
              have C1 := Lib.hid c1
              have C2 := Lib.hid c2
              have I1 := Lib.hid hI1
              have I2 := Lib.hid hI2
              have X1 := Lib.hid hl1
              have X2 := Lib.hid hl2
              have c1 := below_cell HB.out (Nat.le_refl _) c1
              have c2 := below_cell HB.out (Nat.le_refl _) c2
              clear hL1 hL2 hl1 hl2 hI1 hI2
              have h0 : (0 : Int) ≤ (k : Int) := by omega
              have h1 : (k : Int) < (s.calls.length : Int) := by omega
              have h2 : (k : Int) < (t.calls.length : Int) := by omega
              by_cases hlen : l1.length = l2.length
              · have hlen' : ((l1.length : Int) != (l2.length : Int)) = false := by simp; omega
                have hle : l1.length ≤ l2.length := by omega
                have HL := Lib.hid hlen
                clear hlen
                go_wp2_with fail
                go_quiet (fail)
                go_wp2_with fail
                clear c1 c2 q1 q2 hlen'
                go_loopw [6] (fun i wr => ∃ m : Nat, m ≤ l1.length ∧ i = .int .i64 m ∧ (∀ j, j < m → l1[j]? = l2[j]?) ∧ Below w1.heap.size w1 wr) (fun i _ => l1.length - (intOf i).toNat)
                case atStart => exact ⟨0, Nat.zero_le _, rfl, fun j hj => by omega, below_drewN HB.out _⟩
                case round =>
                  clear HB
                  obtain ⟨m, hm, rfl, hE, hb⟩ := hrel
                  have HF := Lib.hid hE
                  have HB := Lib.hid hb
                  have q1 := below_cell hb (Nat.le_refl _) K1.out
                  have q2 := below_cell hb (Nat.le_refl _) K2.out
                  have c1 := below_cell hb (Nat.le_refl _) C1.out
                  have c2 := below_cell hb (Nat.le_refl _) C2.out
                  clear hE hb
                  by_cases hm1 : m < l1.length
                  · have hm2 : m < l2.length := by omega
                    obtain ⟨d1, p1, rfl, hD1⟩ := I1.out (by intro e; rw [e] at hm1; simp at hm1)
                    obtain ⟨d2, p2, rfl, hD2⟩ := I2.out (by intro e; rw [e] at hm2; simp at hm2)
                    obtain ⟨⟨x0, x1, x2, x3⟩, hx⟩ : ∃ x, l1[m]? = some x := ⟨_, List.getElem?_eq_getElem hm1⟩
                    obtain ⟨⟨y0, y1, y2, y3⟩, hy⟩ : ∃ x, l2[m]? = some x := ⟨_, List.getElem?_eq_getElem hm2⟩
                    obtain ⟨r0, r1, r2, r3⟩ := hD1 m _ hx
                    obtain ⟨t0, t1, t2, t3⟩ := hD2 m _ hy
                    replace r0 := below_cell HB.out (Nat.le_refl _) r0
                    replace r1 := below_cell HB.out (Nat.le_refl _) r1
                    replace r2 := below_cell HB.out (Nat.le_refl _) r2
                    replace r3 := below_cell HB.out (Nat.le_refl _) r3
                    replace t0 := below_cell HB.out (Nat.le_refl _) t0
                    replace t1 := below_cell HB.out (Nat.le_refl _) t1
                    replace t2 := below_cell HB.out (Nat.le_refl _) t2
                    replace t3 := below_cell HB.out (Nat.le_refl _) t3
                    have HX := Lib.hid hx
                    have HY := Lib.hid hy
                    clear hD1 hD2 hx hy
                    dsimp only at r0 r1 r2 r3 t0 t1 t2 t3
                    have j0 : (0 : Int) ≤ (m : Int) := by omega
                    have j1 : (m : Int) < (l1.length : Int) := by omega
                    have j2 : (m : Int) < (l2.length : Int) := by omega
                    by_cases hxy : (x0, x1, x2, x3) = (y0, y1, y2, y3)
                    · have nq := neq44 (x0 := x0) (x1 := x1) (x2 := x2) (x3 := x3) (y0 := y0) (y1 := y1) (y2 := y2) (y3 := y3) false (by simpa using hxy)
                      have XY := Lib.hid hxy
                      clear hxy
                      go_wp2_with fail
                      go_quiet (fail)
                      go_wp2_with fail
                      go_roundw
                      case rel => exact ⟨m + 1, by omega, by go_num, fun j hj => (by
                        by_cases e : j = m
                        · rw [e, HX.out, HY.out, XY.out]
                        · exact HF.out j (by omega)), below_drewN HB.out _⟩
                      case measure => simp [intOf]; omega
                    · have nq := neq44 (x0 := x0) (x1 := x1) (x2 := x2) (x3 := x3) (y0 := y0) (y1 := y1) (y2 := y2) (y3 := y3) true (by simpa using hxy)
                      have hf : sameB s t = false := by
                        rw [← Bool.not_eq_true, sameB_iff]; intro e; apply hxy
                        have h3 := X1.out; rw [e, X2.out] at h3
                        have h4 := HX.out; rw [← Option.some.inj h3, HY.out] at h4
                        exact (Option.some.inj h4).symm
                      have HH := Lib.hid hf
                      clear hxy hf
                      go_wp2_with fail
                      go_quiet (fail)
                      go_wp2_with fail
                      go_ret
                      exact ⟨retB HH.out.symm, below_drewN (on HB1.out HB.out) _⟩
                  · obtain rfl : m = l1.length := by omega
                    have hll : l1 = l2 := List.ext_getElem? fun j => by
                      by_cases h : j < l1.length
                      · exact HF.out j h
                      · have := HL.out
                        rw [List.getElem?_eq_none (by omega), List.getElem?_eq_none (by omega)]
                    have HLL := Lib.hid hll
                    clear hll
                    go_wp2_with fail
                    go_roundw
                    case rel => exact ⟨k + 1, by omega, by go_num, fun j hj => (by
                      by_cases e : j = k
                      · rw [e, X1.out, X2.out, HLL.out]
                      · exact HE.out j (by omega)), HB.out⟩
                    case measure => simp [intOf]; omega
              · have hlen' : ((l1.length : Int) != (l2.length : Int)) = true := by simp; omega
                have hf : sameB s t = false := by
                  rw [← Bool.not_eq_true, sameB_iff]; intro e; apply hlen
                  have h3 := X1.out; rw [e, X2.out] at h3
                  rw [Option.some.inj h3]
                have HH := Lib.hid hf
                clear hlen hf
                go_wp2_with fail
                go_quiet (fail)
                go_wp2_with fail
                go_ret
                exact ⟨retB HH.out.symm, below_drewN (on HB1.out HB.out) _⟩
            · obtain rfl : k = s.calls.length := by omega
              have hf : sameB s t = true := by
                have hcs : s.calls = t.calls := List.ext_getElem? fun j => by
                  by_cases h : j < s.calls.length
                  · exact HE.out j h
                  · have := E3.out
                    rw [List.getElem?_eq_none (by omega), List.getElem?_eq_none (by omega)]
                simp [sameB, E1.out, E2.out, E4.out, hcs]
              have HH := Lib.hid hf
              clear hf
              go_wp2_with fail
              go_ret
              exact ⟨retB HH.out.symm, on HB1.out HB.out⟩
        · have e4' : decide (s.picks = t.picks) = false := by simpa using e4
          have hF := Lib.hid (show sameB s t = false by simp [sameB, e4])
          clear e4
          go_wp2_with fail
          go_ret
          exact ⟨retB hF.out.symm, HB1.out⟩
      · have e3' : ((s.calls.length : Int) != (t.calls.length : Int)) = true := by simp; omega
        have hF := Lib.hid (show sameB s t = false by rw [← Bool.not_eq_true, sameB_iff]; intro e; apply e3; rw [e])
        clear e1 e2 e3
        go_enter Try.func11, Try.ntmps11
        go_wp2_with fail
        go_ret
        exact ⟨retB hF.out.symm, HW⟩
    · have e2' : (s.pages != t.pages) = true := by simpa using e2
      have hF := Lib.hid (show sameB s t = false by simp [sameB, e2])
      clear e1 e2
      go_enter Try.func11, Try.ntmps11
      go_wp2_with fail
      go_ret
      exact ⟨retB hF.out.symm, HW⟩
  · have e1' : (s.cpus != t.cpus) = true := by simpa using e1
    have hF := Lib.hid (show sameB s t = false by simp [sameB, e1])
    clear e1
    go_enter Try.func11, Try.ntmps11
    go_wp2_with fail
    go_ret
    exact ⟨retB hF.out.symm, HW⟩

set_option maxRecDepth 100000 in
set_option maxHeartbeats 2000000 in
theorem same20_any (v1 v2 : Value) (s t : Scr) (w : World) (h1 : ScrAt w v1 s) (h2 : ScrAt w v2 t) :
    Calls Try.prog 20 #[v1, v2] w fun e w' => e = .returned (.bool (sameB s t)) ∧ Below w.heap.size w w' := by
  obtain ⟨a1, cc1, ap1, cp1, rfl, hl1, hp1⟩ := h1.val
  obtain ⟨a2, cc2, ap2, cp2, rfl, hl2, hp2⟩ := h2.val
  have hc1 := h1.lc
  have hc2 := h2.lc
  have L1 := Lib.hid h1.ll
  have L2 := Lib.hid h2.ll
  have P1 := Lib.hid hp1
  have P2 := Lib.hid hp2
  have C1 := Lib.hid hl1
  have C2 := Lib.hid hl2
  clear h1 h2 hl1 hl2 hp1 hp2
  have HW : Below w.heap.size w ((w.alloc (.cells #[.int .i64 s.cpus, .int .i64 s.pages, .slice a1 s.calls.length cc1, .slice ap1 s.picks.length cp1] 27)).alloc (.cells #[.int .i64 t.cpus, .int .i64 t.pages, .slice a2 t.calls.length cc2, .slice ap2 t.picks.length cp2] 27)) := (by repeat (first | exact Below.refl _ _ | assumption | refine Below.setCell ?_ (by first | omega | (simp; done) | (simp; omega)) _ | refine Below.drew ?_ | refine Below.alloc ?_ (by first | omega | (simp; done) | (simp; omega)) _ | refine Below.trans ?_ (Below.mono (by assumption) (by first | omega | (simp; done) | (simp; omega)))))
  by_cases e1 : s.cpus = t.cpus
  · have e1' : (s.cpus != t.cpus) = false := by simpa using e1
    have E1 := Lib.hid e1
    by_cases e2 : s.pages = t.pages
    · have e2' : (s.pages != t.pages) = false := by simpa using e2
      have E2 := Lib.hid e2
      by_cases e3 : s.calls.length = t.calls.length
      · have e3' : ((s.calls.length : Int) != (t.calls.length : Int)) = false := by simp; omega
        have hll : s.calls.length ≤ t.calls.length := by omega
        have E3 := Lib.hid e3
        clear e1 e2 e3
        go_enter Try.func20, Try.ntmps20
        go_wp2_with fail
        refine (eqints_any s.picks t.picks ap1 ap2 cp1 cp2 _ (P1.out.below HW) (P2.out.below HW)).mono ?_
        have k1 : ((w.alloc (.cells #[.int .i64 s.cpus, .int .i64 s.pages, .slice a1 s.calls.length cc1, .slice ap1 s.picks.length cp1] 27)).alloc (.cells #[.int .i64 t.cpus, .int .i64 t.pages, .slice a2 t.calls.length cc2, .slice ap2 t.picks.length cp2] 27)).cell? ⟨w.heap.size, 2, none⟩ = some (.slice a1 s.calls.length cc1) := by simp
        have k2 : ((w.alloc (.cells #[.int .i64 s.cpus, .int .i64 s.pages, .slice a1 s.calls.length cc1, .slice ap1 s.picks.length cp1] 27)).alloc (.cells #[.int .i64 t.cpus, .int .i64 t.pages, .slice a2 t.calls.length cc2, .slice ap2 t.picks.length cp2] 27)).cell? ⟨w.heap.size + 1, 2, none⟩ = some (.slice a2 t.calls.length cc2) := by simp
        generalize (w.alloc (.cells #[.int .i64 s.cpus, .int .i64 s.pages, .slice a1 s.calls.length cc1, .slice ap1 s.picks.length cp1] 27)).alloc (.cells #[.int .i64 t.cpus, .int .i64 t.pages, .slice a2 t.calls.length cc2, .slice ap2 t.picks.length cp2] 27) = W0 at *
        rintro e w1 ⟨rfl, hb⟩
        have K1 := Lib.hid (below_cell hb (Nat.le_refl _) k1)
        have K2 := Lib.hid (below_cell hb (Nat.le_refl _) k2)
        have HB := on HW hb
        have D1 := Lib.hid (show s.calls ≠ [] → ∃ g off, a1 = some ⟨g, off, none⟩ ∧ ∀ (i : Nat) (l : List Cl), s.calls[i]? = some l → IsList w1 ⟨g, off + i, none⟩ l from fun hne => by obtain ⟨g, off, ha, hl⟩ := C1.out hne; exact ⟨g, off, ha, fun i l hi => (hl i l hi).below HB⟩)
        have D2 := Lib.hid (show t.calls ≠ [] → ∃ g off, a2 = some ⟨g, off, none⟩ ∧ ∀ (i : Nat) (l : List Cl), t.calls[i]? = some l → IsList w1 ⟨g, off + i, none⟩ l from fun hne => by obtain ⟨g, off, ha, hl⟩ := C2.out hne; exact ⟨g, off, ha, fun i l hi => (hl i l hi).below HB⟩)
        have HB1 := Lib.hid HB
        clear hb k1 k2 HW HB C1 C2 P1 P2
        generalize w.heap.size = V at K1 K2 ⊢
        by_cases e4 : s.picks = t.picks
        · have E4 := Lib.hid e4
          have e4' : decide (s.picks = t.picks) = true := by simpa using e4
          clear e4
          go_wp2_with fail
          clear e1' e2' e3' e4'
          go_loopw [5] (fun i wr => ∃ k : Nat, k ≤ s.calls.length ∧ i = .int .i64 k ∧ (∀ j, j < k → s.calls[j]? = t.calls[j]?) ∧ Below w1.heap.size w1 wr) (fun i _ => s.calls.length - (intOf i).toNat)
          case atStart => exact ⟨0, Nat.zero_le _, rfl, fun j hj => by omega, Below.refl _ _⟩
          case round =>
            obtain ⟨k, hk, rfl, hE, hb⟩ := hrel
            have HE := Lib.hid hE
            have HB := Lib.hid hb
            have q1 := below_cell hb (Nat.le_refl _) K1.out
            have q2 := below_cell hb (Nat.le_refl _) K2.out
            clear hE hb
            by_cases hlt : k < s.calls.length
            · have hlt2 : k < t.calls.length := by omega
              obtain ⟨g1, o1, rfl, hL1⟩ := D1.out (by intro e; rw [e] at hlt; simp at hlt)
              obtain ⟨g2, o2, rfl, hL2⟩ := D2.out (by intro e; rw [e] at hlt2; simp at hlt2)
              obtain ⟨l1, hl1⟩ : ∃ l, s.calls[k]? = some l := ⟨_, List.getElem?_eq_getElem hlt⟩
              obtain ⟨l2, hl2⟩ : ∃ l, t.calls[k]? = some l := ⟨_, List.getElem?_eq_getElem hlt2⟩
              obtain ⟨b1, f1, c1, hI1⟩ := hL1 k l1 hl1
              obtain ⟨b2, f2, c2, hI2⟩ := hL2 k l2 hl2
              have m1 := L1.out l1 (List.mem_of_getElem? hl1)
              have m2 := L2.out l2 (List.mem_of_getElem? hl2)
              have C1 := Lib.hid c1
              have C2 := Lib.hid c2
              have I1 := Lib.hid hI1
              have I2 := Lib.hid hI2
              have X1 := Lib.hid hl1
              have X2 := Lib.hid hl2
              have c1 := below_cell HB.out (Nat.le_refl _) c1
              have c2 := below_cell HB.out (Nat.le_refl _) c2
              clear hL1 hL2 hl1 hl2 hI1 hI2
              have h0 : (0 : Int) ≤ (k : Int) := by omega
              have h1 : (k : Int) < (s.calls.length : Int) := by omega
              have h2 : (k : Int) < (t.calls.length : Int) := by omega
              by_cases hlen : l1.length = l2.length
              · have hlen' : ((l1.length : Int) != (l2.length : Int)) = false := by simp; omega
                have hle : l1.length ≤ l2.length := by omega
                have HL := Lib.hid hlen
                clear hlen
                go_wp2_with fail
                go_quiet (fail)
                go_wp2_with fail
                clear c1 c2 q1 q2 hlen'
                go_loopw [6] (fun i wr => ∃ m : Nat, m ≤ l1.length ∧ i = .int .i64 m ∧ (∀ j, j < m → l1[j]? = l2[j]?) ∧ Below w1.heap.size w1 wr) (fun i _ => l1.length - (intOf i).toNat)
                case atStart => exact ⟨0, Nat.zero_le _, rfl, fun j hj => by omega, below_drewN HB.out _⟩
                case round =>
                  clear HB
                  obtain ⟨m, hm, rfl, hE, hb⟩ := hrel
                  have HF := Lib.hid hE
                  have HB := Lib.hid hb
                  have q1 := below_cell hb (Nat.le_refl _) K1.out
                  have q2 := below_cell hb (Nat.le_refl _) K2.out
                  have c1 := below_cell hb (Nat.le_refl _) C1.out
                  have c2 := below_cell hb (Nat.le_refl _) C2.out
                  clear hE hb
                  by_cases hm1 : m < l1.length
                  · have hm2 : m < l2.length := by omega
                    obtain ⟨d1, p1, rfl, hD1⟩ := I1.out (by intro e; rw [e] at hm1; simp at hm1)
                    obtain ⟨d2, p2, rfl, hD2⟩ := I2.out (by intro e; rw [e] at hm2; simp at hm2)
                    obtain ⟨⟨x0, x1, x2, x3⟩, hx⟩ : ∃ x, l1[m]? = some x := ⟨_, List.getElem?_eq_getElem hm1⟩
                    obtain ⟨⟨y0, y1, y2, y3⟩, hy⟩ : ∃ x, l2[m]? = some x := ⟨_, List.getElem?_eq_getElem hm2⟩
                    obtain ⟨r0, r1, r2, r3⟩ := hD1 m _ hx
                    obtain ⟨t0, t1, t2, t3⟩ := hD2 m _ hy
                    replace r0 := below_cell HB.out (Nat.le_refl _) r0
                    replace r1 := below_cell HB.out (Nat.le_refl _) r1
                    replace r2 := below_cell HB.out (Nat.le_refl _) r2
                    replace r3 := below_cell HB.out (Nat.le_refl _) r3
                    replace t0 := below_cell HB.out (Nat.le_refl _) t0
                    replace t1 := below_cell HB.out (Nat.le_refl _) t1
                    replace t2 := below_cell HB.out (Nat.le_refl _) t2
                    replace t3 := below_cell HB.out (Nat.le_refl _) t3
                    have HX := Lib.hid hx
                    have HY := Lib.hid hy
                    clear hD1 hD2 hx hy
                    dsimp only at r0 r1 r2 r3 t0 t1 t2 t3
                    have j0 : (0 : Int) ≤ (m : Int) := by omega
                    have j1 : (m : Int) < (l1.length : Int) := by omega
                    have j2 : (m : Int) < (l2.length : Int) := by omega
                    by_cases hxy : (x0, x1, x2, x3) = (y0, y1, y2, y3)
                    · have nq := neq44 (x0 := x0) (x1 := x1) (x2 := x2) (x3 := x3) (y0 := y0) (y1 := y1) (y2 := y2) (y3 := y3) false (by simpa using hxy)
                      have XY := Lib.hid hxy
                      clear hxy
                      go_wp2_with fail
                      go_quiet (fail)
                      go_wp2_with fail
                      go_roundw
                      case rel => exact ⟨m + 1, by omega, by go_num, fun j hj => (by
                        by_cases e : j = m
                        · rw [e, HX.out, HY.out, XY.out]
                        · exact HF.out j (by omega)), below_drewN HB.out _⟩
                      case measure => simp [intOf]; omega
                    · have nq := neq44 (x0 := x0) (x1 := x1) (x2 := x2) (x3 := x3) (y0 := y0) (y1 := y1) (y2 := y2) (y3 := y3) true (by simpa using hxy)
                      have hf : sameB s t = false := by
                        rw [← Bool.not_eq_true, sameB_iff]; intro e; apply hxy
                        have h3 := X1.out; rw [e, X2.out] at h3
                        have h4 := HX.out; rw [← Option.some.inj h3, HY.out] at h4
                        exact (Option.some.inj h4).symm
                      have HH := Lib.hid hf
                      clear hxy hf
                      go_wp2_with fail
                      go_quiet (fail)
                      go_wp2_with fail
                      go_ret
                      exact ⟨retB HH.out.symm, below_drewN (on HB1.out HB.out) _⟩
                  · obtain rfl : m = l1.length := by omega
                    have hll : l1 = l2 := List.ext_getElem? fun j => by
                      by_cases h : j < l1.length
                      · exact HF.out j h
                      · have := HL.out
                        rw [List.getElem?_eq_none (by omega), List.getElem?_eq_none (by omega)]
                    have HLL := Lib.hid hll
                    clear hll
                    go_wp2_with fail
                    go_roundw
                    case rel => exact ⟨k + 1, by omega, by go_num, fun j hj => (by
                      by_cases e : j = k
                      · rw [e, X1.out, X2.out, HLL.out]
                      · exact HE.out j (by omega)), HB.out⟩
                    case measure => simp [intOf]; omega
              · have hlen' : ((l1.length : Int) != (l2.length : Int)) = true := by simp; omega
                have hf : sameB s t = false := by
                  rw [← Bool.not_eq_true, sameB_iff]; intro e; apply hlen
                  have h3 := X1.out; rw [e, X2.out] at h3
                  rw [Option.some.inj h3]
                have HH := Lib.hid hf
                clear hlen hf
                go_wp2_with fail
                go_quiet (fail)
                go_wp2_with fail
                go_ret
                exact ⟨retB HH.out.symm, below_drewN (on HB1.out HB.out) _⟩
            · obtain rfl : k = s.calls.length := by omega
              have hf : sameB s t = true := by
                have hcs : s.calls = t.calls := List.ext_getElem? fun j => by
                  by_cases h : j < s.calls.length
                  · exact HE.out j h
                  · have := E3.out
                    rw [List.getElem?_eq_none (by omega), List.getElem?_eq_none (by omega)]
                simp [sameB, E1.out, E2.out, E4.out, hcs]
              have HH := Lib.hid hf
              clear hf
              go_wp2_with fail
              go_ret
              exact ⟨retB HH.out.symm, on HB1.out HB.out⟩
        · have e4' : decide (s.picks = t.picks) = false := by simpa using e4
          have hF := Lib.hid (show sameB s t = false by simp [sameB, e4])
          clear e4
          go_wp2_with fail
          go_ret
          exact ⟨retB hF.out.symm, HB1.out⟩
      · have e3' : ((s.calls.length : Int) != (t.calls.length : Int)) = true := by simp; omega
        have hF := Lib.hid (show sameB s t = false by rw [← Bool.not_eq_true, sameB_iff]; intro e; apply e3; rw [e])
        clear e1 e2 e3
        go_enter Try.func20, Try.ntmps20
        go_wp2_with fail
        go_ret
        exact ⟨retB hF.out.symm, HW⟩
    · have e2' : (s.pages != t.pages) = true := by simpa using e2
      have hF := Lib.hid (show sameB s t = false by simp [sameB, e2])
      clear e1 e2
      go_enter Try.func20, Try.ntmps20
      go_wp2_with fail
      go_ret
      exact ⟨retB hF.out.symm, HW⟩
  · have e1' : (s.cpus != t.cpus) = true := by simpa using e1
    have hF := Lib.hid (show sameB s t = false by simp [sameB, e1])
    clear e1
    go_enter Try.func20, Try.ntmps20
    go_wp2_with fail
    go_ret
    exact ⟨retB hF.out.symm, HW⟩
end Go.Proofs.Ytdjhkiahpidldaa
