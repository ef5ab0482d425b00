/- The program's order of calls: the helper. -/
import Derived.Test.YthmkmjoeceghiaaPH
namespace Go.Proofs.Ythmkmjoeceghiaa
open Go.RowKit

attribute [local go_sem ↓] Go.wp_at_zero Go.wp_at_succ
set_option maxRecDepth 100000 in
theorem by_look_eq {w : World} {Mb n : Nat} {D : DataW Value} (h : w.ownsMap Try.prog 84 valR Mb n D) {d : Dd} (h1 : IsI d.1) (h2 : WfO d.2) {v : Value} (e : D.atKey (kd d) nilD = .held v) : (Instr.lookup 74 (.map (some Mb)) (ddV d) false).run Try.prog w = .ok v w := by
  obtain ⟨v', hr, hv⟩ := by_look h h1 h2
  rw [e] at hv
  injection hv with hv
  rw [hv]; exact hr
/-- a call's address, or nil -/
def optP (cb : Nat → Nat) : Option Nat → Value
  | none => .pointer none
  | some k => .pointer (some ⟨cb k, 0, none⟩)
theorem retP {cb : Nat → Nat} {a : Option Nat} {v : Value} (h : v = optP cb a) : Ending.returned v = .returned (optP cb a) := by rw [h]
def hlpQ (l : List Sp) (out : List Nat) (m : Nat) (i : Nat) : Bool := decide (i ∉ out) && decide ((sp l i).2.1 ≤ (sp l m).2.2)
theorem find_tau (l : List Sp) (σ out : List Nat) (m : Nat) (K : Int) : (tau l σ (K, (sp l m).1.2)).find? (hlpQ l out m) = σ.find? (hlpP l out m K) := by
  unfold tau
  rw [List.find?_filter]
  congr 1
  funext i
  unfold hlpP hlpQ
  rw [Bool.eq_iff_iff]
  simp only [Bool.and_eq_true, decide_eq_true_eq, Prod.ext_iff]
  constructor
  · rintro ⟨⟨h1, h2⟩, h3, h4⟩; exact ⟨⟨⟨h3, h2⟩, h1⟩, h4⟩
  · rintro ⟨⟨⟨h3, h2⟩, h1⟩, h4⟩; exact ⟨⟨h1, h2⟩, h3, h4⟩
theorem find_take {α : Type} {p : α → Bool} {xs : List α} {k : Nat} {x : α} (h : (xs.take k).find? p = none) (hx : xs[k]? = some x) : (p x = true → xs.find? p = some x) ∧ (p x = false → (xs.take (k + 1)).find? p = none) := by
  constructor
  · intro hp
    have e : xs = xs.take k ++ x :: xs.drop (k + 1) := by
      obtain ⟨hk, rfl⟩ := List.getElem?_eq_some_iff.1 hx
      conv => lhs; rw [← List.take_append_drop k xs, List.drop_eq_getElem_cons hk]
    rw [e, List.find?_append, h]
    simp [hp]
  · intro hp
    rw [take_succ hx, List.find?_append, h]
    simp [hp]
set_option maxRecDepth 100000 in
set_option maxHeartbeats 4000000 in
theorem helps_any (l : List Sp) (W : World) (mb hB hM Mb : Nat) (cb : Nat → Nat) (σ : List Nat) (cv : Value) (D : DataW Value) (nn : Nat) (out : List Nat) (S : List Ob) (ov : Value) (w : World) (m : Nat) (hm : m < l.length)
    (hσ : ∀ i ∈ σ, i < l.length) (hσl : σ.length ≤ 256) (hwf : WfO (sp l m).1.2) (P0 : Pl l W mb hB hM Mb cb σ cv D nn out S ov w) :
    Calls Try.prog 56 #[.pointer (some ⟨mb, 0, none⟩), .pointer (some ⟨cb m, 0, none⟩)] w fun e w' => e = .returned (optP cb (σ.find? (hlpP l out m (hlpK S (sp l m))))) ∧ Below w.heap.size w w' := by
  have P := Lib.hid P0
  have SG := Lib.hid hσ
  have WF := Lib.hid hwf
  have hcm := P0.c m hm
  have d1 := hcm.cell (i := 1) rfl
  have d2 := hcm.cell (i := 2) rfl
  have d3 := hcm.cell (i := 3) rfl
  have VB := Lib.hid (Blk.new w #[.int .i64 1, .int .i64 (sp l m).1.2.1, .int .i64 (sp l m).1.2.2.1, .int .i64 (sp l m).1.2.2.2] 84)
  have B1 := Lib.hid ((Below.refl w.heap.size w).alloc (Nat.le_refl _) (.cells #[.int .i64 1, .int .i64 (sp l m).1.2.1, .int .i64 (sp l m).1.2.2.1, .int .i64 (sp l m).1.2.2.2] 84))
  simp at d1 d2 d3
  clear P0 hσ hwf hcm
  go_enter Try.func56, Try.ntmps56
  go_wp2_with fail
  clear d1 d2 d3
  obtain ⟨V, hV⟩ : ∃ V, V = w.heap.size := ⟨_, rfl⟩
  rw [← hV] at VB ⊢
  have HV := Lib.hid hV
  clear hV
  generalize w.alloc (.cells #[.int .i64 1, .int .i64 (sp l m).1.2.1, .int .i64 (sp l m).1.2.2.1, .int .i64 (sp l m).1.2.2.2] 84) = wr at *
  have PB := Lib.hid (P.out.below B1.out)
  have m0 := PB.out.m.cell (i := 0) rfl
  have d1 := (PB.out.c m hm).cell (i := 1) rfl
  have d2 := (PB.out.c m hm).cell (i := 2) rfl
  have d3 := (PB.out.c m hm).cell (i := 3) rfl
  simp at m0 d1 d2 d3
  have k0 := fun d os => cell_regrown m0 d os
  have k1 := fun d os => cell_regrown d1 d os
  have k2 := fun d os => cell_regrown d2 d os
  have k3 := fun d os => cell_regrown d3 d os
  have hhas := fun W' (hb : Below wr.heap.size wr W') => has_any hB hM nn S (sp l m).1.2 W' (PB.out.h.below hb) WF.out
  obtain ⟨isb, hisb⟩ : ∃ isb, isb = decide ((sp l m).1.2 ∈ S) := ⟨_, rfl⟩
  rw [← hisb] at hhas
  have HIS := Lib.hid hisb
  clear hisb
  refine wp_region_quiet_below (by kernel_rfl) (by kernel_rfl) ?_
  repeat (quiet_step (first | (go_at_call 24; exact Calls.regrown_of (hhas _ (below_regrown wr _ _)))))
  refine wpQuiet_nil ?_
  intro _ hw'
  obtain ⟨⟨dq, osq⟩, hw''⟩ := hw'
  subst hw''
  have hbq : Below wr.heap.size wr (Go.Sort.grow (redrawn wr dq) osq) := below_regrown wr dq osq
  dsimp only
  generalize Go.Sort.grow (redrawn wr dq) osq = wq at hbq ⊢
  clear k0 k1 k2 k3 hhas m0 d1 d2 d3
  replace PB := Lib.hid (PB.out.below hbq)
  replace VB := Lib.hid (VB.out.below hbq)
  replace B1 := Lib.hid (on2 B1.out hbq)
  clear hbq
  have v0 := VB.out.cell (i := 0) rfl
  have f0 := VB.out.frozen 0
  cases isb with
  | true =>
    have hK : hlpK S (sp l m) = 3 := by unfold hlpK; rw [if_pos (by simpa using HIS.out.symm)]
    have HKK := Lib.hid hK
    clear hK
    have VB3 := Lib.hid (VB.out.set 0 (.int .i64 3) (cs' := #[.int .i64 3, .int .i64 (sp l m).1.2.1, .int .i64 (sp l m).1.2.2.1, .int .i64 (sp l m).1.2.2.2]) rfl)
    have B3 := Lib.hid (B1.out.setCell (p := ⟨V, 0, none⟩) (show w.heap.size ≤ V by rw [HV.out]; exact Nat.le_refl _) (.int .i64 3))
    go_wp2_with fail
    clear v0 f0
    generalize wq.setCell ⟨V, 0, none⟩ (.int .i64 3) = wx at *
    have PX := Lib.hid (P.out.below B3.out)
    obtain ⟨ra, rc, hat, hrow⟩ := PX.out.rows (3, (sp l m).1.2) (show IsI 3 from ⟨by decide, by decide⟩) WF.out
    have hlk := fun (n : Nat) => by_look_eq (w := wx.drewN n) (own_at PX.out.by_ rfl) (d := (3, (sp l m).1.2)) (show IsI 3 from ⟨by decide, by decide⟩) WF.out hat
    have ROW := Lib.hid hrow
    have m2 := PX.out.m.cell (i := 2) rfl
    have v0 := VB3.out.cell (i := 0) rfl
    have v1 := VB3.out.cell (i := 1) rfl
    have v2 := VB3.out.cell (i := 2) rfl
    have v3 := VB3.out.cell (i := 3) rfl
    simp at m2 v0 v1 v2 v3
    clear hat hrow
    go_quiet (fail)
    clear hlk m2 v0 v1 v2 v3
    have BQ := Lib.hid (below_drewN B3.out nq)
    have hbq : Below wx.heap.size wx (wx.drewN nq) := below_drewN (Below.refl _ _) nq
    have PQ := Lib.hid (PX.out.below hbq)
    replace ROW := Lib.hid (show PtrRow (wx.drewN nq) W.heap.size ra cb (tau l σ (3, (sp l m).1.2)) from ROW.out)
    generalize wx.drewN nq = wy at *
    clear hbq
    obtain ⟨τ, hτ⟩ : ∃ τ, τ = tau l σ (3, (sp l m).1.2) := ⟨_, rfl⟩
    have FT := Lib.hid (show τ.find? (hlpQ l out m) = σ.find? (hlpP l out m (hlpK S (sp l m))) by rw [hτ, find_tau, HKK.out])
    have ST := Lib.hid (show ∀ i ∈ τ, i < l.length from fun i hi => SG.out i (by rw [hτ] at hi; exact (List.mem_filter.1 hi).1))
    have hτl : τ.length ≤ 256 := by rw [hτ]; unfold tau; have := List.length_filter_le (fun i => decide ((sp l i).1 = (3, (sp l m).1.2))) σ; omega
    rw [← hτ] at ROW ⊢
    clear hτ
    go_wp2_with fail
    go_loopw [34] (fun jv wr => ∃ j : Nat, j ≤ τ.length ∧ jv = .int .i64 j ∧ (τ.take j).find? (hlpQ l out m) = none ∧ Below wy.heap.size wy wr) (fun jv _ => τ.length - (intOf jv).toNat)
    case atStart => exact ⟨0, Nat.zero_le _, rfl, rfl, Below.refl _ _⟩
    case round =>
      obtain ⟨j, hj, rfl, hf, hb⟩ := hrel
      have FN := Lib.hid hf
      have BB := Lib.hid hb
      have PR := Lib.hid (PQ.out.below hb)
      clear hf hb
      by_cases hlt : j < τ.length
      · obtain ⟨i, hi⟩ : ∃ i, τ[j]? = some i := ⟨_, List.getElem?_eq_getElem hlt⟩
        have hil := ST.out i (List.mem_of_getElem? hi)
        obtain ⟨g, cs, rfl, hg, hc, hcs⟩ := ROW.out (by intro e; rw [e] at hlt; simp at hlt)
        have e1 := ((show Blk wy g cs 78 from hc).below BB.out).cell (hcs j i hi)
        have e2 := (PR.out.c i hil).cell (i := 7) rfl
        have e3 := (PR.out.c i hil).cell (i := 4) rfl
        have e4 := (PR.out.c m hm).cell (i := 5) rfl
        simp at e2 e3 e4
        have FK := Lib.hid (find_take FN.out hi)
        have HQ := Lib.hid (show hlpQ l out m i = true ↔ i ∉ out ∧ (sp l i).2.1 ≤ (sp l m).2.2 by simp [hlpQ])
        have j0 : (0 : Int) ≤ (j : Int) := by omega
        have j1 : (j : Int) < (τ.length : Int) := by omega
        clear hi hc hcs
        by_cases hio : i ∈ out
        · rw [decide_eq_true hio] at e2
          have NX := Lib.hid (FK.out.2 (by rw [Bool.eq_false_iff, ne_eq, HQ.out]; exact fun h => h.1 hio))
          clear hio
          go_wp2_with fail
          go_quiet (fail)
          have BX := Lib.hid (below_drewN BB.out nq)
          clear e1 e2 e3 e4
          go_wp2_with fail
          go_roundw
          case rel => exact ⟨j + 1, by omega, by go_num, NX.out, BX.out⟩
          case measure => simp [intOf]; omega
        · rw [decide_eq_false hio] at e2
          by_cases hft : (sp l i).2.1 ≤ (sp l m).2.2
          · have NX := Lib.hid (FK.out.1 (HQ.out.2 ⟨hio, hft⟩))
            clear hio
            go_wp2_with fail
            go_quiet (fail)
            have BX := Lib.hid (below_drewN BB.out nq)
            clear e1 e2 e3 e4
            go_wp2_with fail
            go_ret
            exact ⟨retP (by rw [← FT.out, NX.out]; rfl), on2 BQ.out BX.out⟩
          · have NX := Lib.hid (FK.out.2 (by rw [Bool.eq_false_iff, ne_eq, HQ.out]; exact fun h => hft h.2))
            have hft' : decide ((sp l i).2.1 ≤ (sp l m).2.2) = false := by simpa using hft
            clear hio hft
            go_wp2_with fail
            go_quiet (fail)
            have BX := Lib.hid (below_drewN BB.out nq)
            clear e1 e2 e3 e4
            go_wp2_with fail
            go_roundw
            case rel => exact ⟨j + 1, by omega, by go_num, NX.out, BX.out⟩
            case measure => simp [intOf]; omega
      · obtain rfl : j = τ.length := by omega
        have NX := Lib.hid (show τ.find? (hlpQ l out m) = none by have := FN.out; rwa [List.take_length] at this)
        go_wp2_with fail
        go_ret
        exact ⟨retP (by rw [← FT.out, NX.out]; rfl), on2 BQ.out BB.out⟩
  | false =>
    have hK : hlpK S (sp l m) = 1 := by unfold hlpK; rw [if_neg (by simpa using HIS.out.symm)]
    have HKK := Lib.hid hK
    clear hK
    have VB3 := Lib.hid VB.out
    have B3 := Lib.hid B1.out
    go_wp2_with fail
    clear v0 f0
    generalize wq = wx at *
    have PX := Lib.hid (P.out.below B3.out)
    obtain ⟨ra, rc, hat, hrow⟩ := PX.out.rows (1, (sp l m).1.2) (show IsI 1 from ⟨by decide, by decide⟩) WF.out
    have hlk := fun (n : Nat) => by_look_eq (w := wx.drewN n) (own_at PX.out.by_ rfl) (d := (1, (sp l m).1.2)) (show IsI 1 from ⟨by decide, by decide⟩) WF.out hat
    have ROW := Lib.hid hrow
    have m2 := PX.out.m.cell (i := 2) rfl
    have v0 := VB3.out.cell (i := 0) rfl
    have v1 := VB3.out.cell (i := 1) rfl
    have v2 := VB3.out.cell (i := 2) rfl
    have v3 := VB3.out.cell (i := 3) rfl
    simp at m2 v0 v1 v2 v3
    clear hat hrow
    go_quiet (fail)
    clear hlk m2 v0 v1 v2 v3
    have BQ := Lib.hid (below_drewN B3.out nq)
    have hbq : Below wx.heap.size wx (wx.drewN nq) := below_drewN (Below.refl _ _) nq
    have PQ := Lib.hid (PX.out.below hbq)
    replace ROW := Lib.hid (show PtrRow (wx.drewN nq) W.heap.size ra cb (tau l σ (1, (sp l m).1.2)) from ROW.out)
    generalize wx.drewN nq = wy at *
    clear hbq
    obtain ⟨τ, hτ⟩ : ∃ τ, τ = tau l σ (1, (sp l m).1.2) := ⟨_, rfl⟩
    have FT := Lib.hid (show τ.find? (hlpQ l out m) = σ.find? (hlpP l out m (hlpK S (sp l m))) by rw [hτ, find_tau, HKK.out])
    have ST := Lib.hid (show ∀ i ∈ τ, i < l.length from fun i hi => SG.out i (by rw [hτ] at hi; exact (List.mem_filter.1 hi).1))
    have hτl : τ.length ≤ 256 := by rw [hτ]; unfold tau; have := List.length_filter_le (fun i => decide ((sp l i).1 = (1, (sp l m).1.2))) σ; omega
    rw [← hτ] at ROW ⊢
    clear hτ
    go_wp2_with fail
    go_loopw [34] (fun jv wr => ∃ j : Nat, j ≤ τ.length ∧ jv = .int .i64 j ∧ (τ.take j).find? (hlpQ l out m) = none ∧ Below wy.heap.size wy wr) (fun jv _ => τ.length - (intOf jv).toNat)
    case atStart => exact ⟨0, Nat.zero_le _, rfl, rfl, Below.refl _ _⟩
    case round =>
      obtain ⟨j, hj, rfl, hf, hb⟩ := hrel
      have FN := Lib.hid hf
      have BB := Lib.hid hb
      have PR := Lib.hid (PQ.out.below hb)
      clear hf hb
      by_cases hlt : j < τ.length
      · obtain ⟨i, hi⟩ : ∃ i, τ[j]? = some i := ⟨_, List.getElem?_eq_getElem hlt⟩
        have hil := ST.out i (List.mem_of_getElem? hi)
        obtain ⟨g, cs, rfl, hg, hc, hcs⟩ := ROW.out (by intro e; rw [e] at hlt; simp at hlt)
        have e1 := ((show Blk wy g cs 78 from hc).below BB.out).cell (hcs j i hi)
        have e2 := (PR.out.c i hil).cell (i := 7) rfl
        have e3 := (PR.out.c i hil).cell (i := 4) rfl
        have e4 := (PR.out.c m hm).cell (i := 5) rfl
        simp at e2 e3 e4
        have FK := Lib.hid (find_take FN.out hi)
        have HQ := Lib.hid (show hlpQ l out m i = true ↔ i ∉ out ∧ (sp l i).2.1 ≤ (sp l m).2.2 by simp [hlpQ])
        have j0 : (0 : Int) ≤ (j : Int) := by omega
        have j1 : (j : Int) < (τ.length : Int) := by omega
        clear hi hc hcs
        by_cases hio : i ∈ out
        · rw [decide_eq_true hio] at e2
          have NX := Lib.hid (FK.out.2 (by rw [Bool.eq_false_iff, ne_eq, HQ.out]; exact fun h => h.1 hio))
          clear hio
          go_wp2_with fail
          go_quiet (fail)
          have BX := Lib.hid (below_drewN BB.out nq)
          clear e1 e2 e3 e4
          go_wp2_with fail
          go_roundw
          case rel => exact ⟨j + 1, by omega, by go_num, NX.out, BX.out⟩
          case measure => simp [intOf]; omega
        · rw [decide_eq_false hio] at e2
          by_cases hft : (sp l i).2.1 ≤ (sp l m).2.2
          · have NX := Lib.hid (FK.out.1 (HQ.out.2 ⟨hio, hft⟩))
            clear hio
            go_wp2_with fail
            go_quiet (fail)
            have BX := Lib.hid (below_drewN BB.out nq)
            clear e1 e2 e3 e4
            go_wp2_with fail
            go_ret
            exact ⟨retP (by rw [← FT.out, NX.out]; rfl), on2 BQ.out BX.out⟩
          · have NX := Lib.hid (FK.out.2 (by rw [Bool.eq_false_iff, ne_eq, HQ.out]; exact fun h => hft h.2))
            have hft' : decide ((sp l i).2.1 ≤ (sp l m).2.2) = false := by simpa using hft
            clear hio hft
            go_wp2_with fail
            go_quiet (fail)
            have BX := Lib.hid (below_drewN BB.out nq)
            clear e1 e2 e3 e4
            go_wp2_with fail
            go_roundw
            case rel => exact ⟨j + 1, by omega, by go_num, NX.out, BX.out⟩
            case measure => simp [intOf]; omega
      · obtain rfl : j = τ.length := by omega
        have NX := Lib.hid (show τ.find? (hlpQ l out m) = none by have := FN.out; rwa [List.take_length] at this)
        go_wp2_with fail
        go_ret
        exact ⟨retP (by rw [← FT.out, NX.out]; rfl), on2 BQ.out BB.out⟩
end Go.Proofs.Ythmkmjoeceghiaa
