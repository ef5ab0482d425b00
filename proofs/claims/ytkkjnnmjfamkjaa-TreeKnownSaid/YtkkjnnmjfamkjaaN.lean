/- Paths, in plain words; TreePaths. -/
import Derived.Test.YtkkjnnmjfamkjaaM
import Derived.Deep.OwnRows
import Derived.Lib.QuietBelow
import Derived.BigQuiet
import Derived.IntWalk
namespace Go.Proofs.Ytkkjnnmjfamkjaa
open Go.RowKit Go.Shelf

attribute [local go_sem ↓] Go.wp_at_zero Go.wp_at_succ
theorem gAt_some {T : List Gp} {g : Int} (h1 : 1 ≤ g) (h2 : g ≤ T.length) : ∃ x, gAt T g = some x := by
  unfold gAt
  rw [if_pos h1]
  exact ⟨_, List.getElem?_eq_getElem (by omega)⟩
theorem WfT.pos {T : List Gp} (wf : WfT T) : 1 ≤ T.length := by
  have := List.length_pos_iff.2 wf.ne; omega
/-- what a path is -/
theorem path_spec {T : List Gp} (wf : WfT T) : ∀ (n : Nat) (g : Int) (x : Gp), g ≤ n → gAt T g = some x →
    (path T g)[0]? = some g ∧ (path T g)[(path T g).length - 1]? = some 1 ∧ (∀ z ∈ path T g, 1 ≤ z ∧ z ≤ T.length) ∧
      (∀ (i : Nat) (a b : Int), (path T g)[i]? = some a → (path T g)[i + 1]? = some b → parentT T a = b ∧ b < a) := by
  intro n
  induction n with
  | zero => intro g x h hg; have := (gAt_lt hg).1; omega
  | succ n ih =>
    intro g x h hg
    have hp := wf.parent hg
    have hl := gAt_lt hg
    have hP : parentT T g = x.1 := by unfold parentT; rw [hg]
    rw [wf.path_some hg]
    cases hx : gAt T x.1 with
    | none =>
      have hr : g = 1 := by
        by_cases e : g = 1
        · exact e
        · obtain ⟨a, _, _, _, y, hy, _⟩ := wf.up (g - 1).toNat x hl.2.2 (by omega)
          rw [hx] at hy; cases hy
      rw [WfT.path_none hx]
      refine ⟨rfl, by simp [hr], fun z hz => by simp at hz; rw [hz]; omega, fun i a b h1 h2 => by simp at h2⟩
    | some y =>
      obtain ⟨h1, h2, h3, h4⟩ := ih x.1 y (by omega) hx
      have hlen : 1 ≤ (path T x.1).length := by rw [wf.path_some hx]; simp
      refine ⟨rfl, ?_, fun z hz => ?_, fun i a b ha hb => ?_⟩
      · rw [show (g :: path T x.1).length - 1 = ((path T x.1).length - 1) + 1 by simp; omega, List.getElem?_cons_succ]; exact h2
      · rcases List.mem_cons.1 hz with rfl | hz
        · omega
        · exact h3 z hz
      · rw [List.getElem?_cons_succ] at hb
        cases i with
        | zero =>
          rw [List.getElem?_cons_zero] at ha
          cases ha
          rw [h1] at hb
          cases hb
          exact ⟨hP, hp.2.1⟩
        | succ i =>
          rw [List.getElem?_cons_succ] at ha
          exact h4 i a b ha hb
theorem below_mem {T : List Gp} {g h : Int} {l : List Int} (hl : path T g = l) : belowT T g h = decide (h ∈ l) := by
  unfold belowT
  rw [hl, Bool.eq_iff_iff, List.any_eq_true]
  simp
/-- a stored mark -/
theorem row_mark {wr : World} {I : Nat} {l : List Int} {i : Nat} {x : Int} (h : wr.rowIs I 42 17 (fun c => .bool (decide ((c : Int) ∈ l.take i)))) (hx : l[i]? = some x) (h0 : 0 ≤ x) :
    (wr.setCell ⟨I, x.toNat, none⟩ (.bool true)).rowIs I 42 17 (fun c => .bool (decide ((c : Int) ∈ l.take (i + 1)))) :=
  (h.set x.toNat (.bool true)).congr fun c _ => by
    rw [take_succ hx]
    by_cases e : c = x.toNat
    · subst e
      rw [if_pos rfl]
      have : ((x.toNat : Nat) : Int) = x := by omega
      simp [this]
    · rw [if_neg e]
      have : (c : Int) ≠ x := by omega
      simp [this]
theorem row17 (w : World) (t : TypeId) (z : Value) : (w.alloc (.cells #[z, z, z, z, z, z, z, z, z, z, z, z, z, z, z, z, z] t)).rowIs w.heap.size t 17 (fun _ => z) := by
  refine World.rowIs_alloc w #[z, z, z, z, z, z, z, z, z, z, z, z, z, z, z, z, z] t (fun _ => z) fun i hi => ?_
  have hi' : i < 17 := hi
  rw [show #[z, z, z, z, z, z, z, z, z, z, z, z, z, z, z, z, z] = Array.replicate 17 z from rfl, Array.getElem?_replicate, if_pos hi']
set_option maxRecDepth 100000 in
set_option maxHeartbeats 1000000 in
theorem paths_any (l : List Dw) (a : Option Addr) (cap : Nat) (w : World) (hI : IsDos w a l) (hlen : l.length ≤ 9223372036854775807) :
    Calls Try.prog 4 #[.slice a l.length cap] w fun e w' => e = .returned (.bool true) ∧ Below w.heap.size w w' := by
  have II := Lib.hid hI
  clear hI
  go_enter Try.func4, Try.ntmps4
  go_wp2_with fail
  refine (works_any _).mono ?_
  rintro e w1 ⟨rfl, hb⟩
  replace II := Lib.hid (II.out.below hb)
  have BB := Lib.hid hb
  clear hb
  go_wp2_with fail
  refine (grown_any l a cap _ II.out hlen).mono ?_
  rintro e w2 ⟨B, rfl, hT, hb⟩
  obtain ⟨base, hbase⟩ : ∃ b, w1.heap.size = b := ⟨_, rfl⟩
  obtain ⟨T, hTe⟩ : ∃ T, grT l = T := ⟨_, rfl⟩
  replace BB := Lib.hid (on BB.out hb)
  rw [hbase, hTe] at hT
  have TT := Lib.hid hT
  have hl1 := hT.wf.pos
  have hl2 := hT.wf.le
  have WF := Lib.hid hT.wf
  have hbT1 : decide ((T.length : Int) < 1) = false := by simp; omega
  have hbT2 : decide ((16 : Int) < (T.length : Int)) = false := by simp; omega
  clear hT hb hbase hTe II
  go_wp2_with fail
  refine (many_at TT.out rfl).mono ?_
  rintro e wz ⟨rfl, rfl⟩
  go_wp2_with fail
  refine (many_at TT.out rfl).mono ?_
  rintro e wz ⟨rfl, rfl⟩
  go_wp2_with fail
  clear hbT1 hbT2
  go_loopw [4] (fun gv wr => ∃ k : Nat, 1 ≤ k ∧ k ≤ T.length + 1 ∧ gv = .int .i64 k ∧ Tr wr base B T ∧ Below w.heap.size w wr) (fun gv _ => (17 - intOf gv).toNat)
  case atStart => exact ⟨1, by omega, by omega, rfl, TT.out, BB.out⟩
  case round =>
    obtain ⟨k, hk1, hk2, rfl, hT, hB⟩ := hrel
    rename_i wr
    clear TT BB
    have TT := Lib.hid hT
    have BB := Lib.hid hB
    clear hT hB
    by_cases hlt : k ≤ T.length
    · obtain ⟨x, hx⟩ := gAt_some (T := T) (g := (k : Int)) (by omega) (by omega)
      obtain ⟨ls, hls⟩ : ∃ l, path T (k : Int) = l := ⟨_, rfl⟩
      have hsp := path_spec WF.out k k x (by omega) hx
      have hpl := path_len WF.out k
      have hpd := path_depth WF.out k
      rw [hls] at hsp hpl hpd
      have HL := Lib.hid hls
      have HD := Lib.hid hpd.symm
      have hl0 : 0 < ls.length := by
        rcases Nat.eq_zero_or_pos ls.length with h | h
        · have := hsp.1; rw [List.eq_nil_of_length_eq_zero h] at this; cases this
        · exact h
      have HS := Lib.hid hsp
      clear hls hsp hpd hx
      go_wp2_with fail
      refine (many_at TT.out rfl).mono ?_
      rintro e wz ⟨rfl, rfl⟩
      go_wp2_with fail
      refine (path_at TT.out HL.out).mono ?_
      rintro e w3 ⟨a3, c3, rfl, ho, hs, hb⟩
      have hsz := BB.out.size
      replace TT := Lib.hid (TT.out.below hb)
      replace BB := Lib.hid (on BB.out hb)
      obtain ⟨q, off, hq, hcell⟩ := hs.2 (by intro e; rw [e] at hl0; simp at hl0)
      obtain rfl := hq
      have LC := Lib.hid hcell
      have d0 : w3.cell? ⟨q, off, none⟩ = some (encI k) := hcell 0 _ HS.out.1
      have hb1 : decide ((ls.length : Int) < 1) = false := by simp; omega
      have hb2 : decide ((8 : Int) < (ls.length : Int)) = false := by simp; omega
      dsimp only [encI] at d0
      have d1 := hcell _ _ HS.out.2.1
      dsimp only [encI] at d1
      clear ho hs hb hcell
      go_wp2_with fail
      refine (depth_at TT.out HD.out).mono ?_
      rintro e wz ⟨rfl, rfl⟩
      go_wp2_with fail
      have R0 := Lib.hid ((row17 w3 42 (.bool false)).congr (g := fun c => .bool (decide ((c : Int) ∈ ls.take 0))) (fun i _ => by simp))
      have b0 : Below w3.heap.size w3 (w3.alloc (.cells #[.bool false, .bool false, .bool false, .bool false, .bool false, .bool false, .bool false, .bool false, .bool false, .bool false, .bool false, .bool false, .bool false, .bool false, .bool false, .bool false, .bool false] 42)) := (by repeat (first | exact Below.refl _ _ | assumption | refine Below.setCell ?_ (by first | omega | (simp; done) | (simp; omega)) _ | refine Below.drew ?_ | refine Below.alloc ?_ (by first | omega | (simp; done) | (simp; omega)) _ | refine Below.trans ?_ (Below.mono (by assumption) (by first | omega | (simp; done) | (simp; omega)))))
      have B0 := Lib.hid b0
      clear b0 d0 d1 hb1 hb2
      obtain ⟨I, hI⟩ : ∃ I, w3.heap.size = I := ⟨_, rfl⟩
      rw [hI] at R0 ⊢
      have HI := Lib.hid hI
      clear hI
      generalize w3.alloc (.cells #[.bool false, .bool false, .bool false, .bool false, .bool false, .bool false, .bool false, .bool false, .bool false, .bool false, .bool false, .bool false, .bool false, .bool false, .bool false, .bool false, .bool false] 42) = W4 at *
      go_loopw [7] (fun iv wr => ∃ i : Nat, i ≤ ls.length ∧ iv = .int .i64 i ∧ wr.rowIs I 42 17 (fun c => .bool (decide ((c : Int) ∈ ls.take i))) ∧ Below w3.heap.size w3 wr) (fun iv _ => ls.length - (intOf iv).toNat)
      case atStart => exact ⟨0, by omega, rfl, R0.out, B0.out⟩
      case round =>
        obtain ⟨i, hi, rfl, hr, hb⟩ := hrel
        clear R0 B0
        have RI := Lib.hid hr
        have B5 := Lib.hid hb
        have hri := hr.lt
        clear hr hb
        by_cases hil : i < ls.length
        · have hxi : ls[i]? = some ls[i] := List.getElem?_eq_getElem hil
          obtain ⟨y, hy⟩ : ∃ y, ls[i] = y := ⟨_, rfl⟩
          rw [hy] at hxi
          have hym := HS.out.2.2.1 y (List.mem_of_getElem? hxi)
          have e0 := below_cell B5.out (Nat.le_refl _) (LC.out i y hxi)
          dsimp only [encI] at e0
          have hy17 : y % 17 = y := Int.emod_eq_of_lt (by omega) (by omega)
          have R6 := Lib.hid (row_mark RI.out hxi (by omega))
          have HX := Lib.hid hxi
          have f6 := RI.out.frozen y.toNat
          have c6 := RI.out.cell (i := y.toNat) (by omega)
          clear hxi hy
          have i0 : 0 ≤ y := by omega
          have i1 : y < 17 := by omega
          go_wp2_with fail
          refine (bring_any y 17 _ (by omega) (by omega)).mono ?_
          rintro e w6 ⟨rfl, rfl⟩
          rw [hy17]
          clear hy17
          go_wp2_with fail
          have B6 := Lib.hid (B5.out.setCell (p := ⟨I, y.toNat, none⟩) (by rw [HI.out]; exact Nat.le_refl _) (.bool true))
          clear f6 c6 RI B5
          generalize wr.setCell ⟨I, y.toNat, none⟩ (.bool true) = W6 at *
          have T6 := Lib.hid (TT.out.below B6.out)
          have k1 := fun d os => cell_regrown (below_cell B6.out (Nat.le_refl _) (LC.out i y HX.out)) d os
          dsimp only [encI] at k1
          have i2 : (0 : Int) ≤ (i : Int) := by omega
          have i3 : (i : Int) < (ls.length : Int) := by omega
          by_cases hi0 : 0 < i
          · have g0 : decide ((0 : Int) < (i : Int)) = true := by simpa using hi0
            obtain ⟨z, hz⟩ : ∃ z, ls[i - 1]? = some z := ⟨_, List.getElem?_eq_getElem (by omega)⟩
            have hst := HS.out.2.2.2 (i - 1) z y hz (by rw [show i - 1 + 1 = i by omega]; exact HX.out)
            have HP := Lib.hid hst.1
            have hge : decide (z ≤ y) = false := by simpa using hst.2
            have k2 := fun d os => cell_regrown (below_cell B6.out (Nat.le_refl _) (LC.out (i - 1) z hz)) d os
            dsimp only [encI] at k2
            have hw := IntWalk.i64_in ((i : Int) - 1) (by omega)
            have j0 : (0 : Int) ≤ (i : Int) - 1 := by omega
            have j1 : (i : Int) - 1 < (ls.length : Int) := by omega
            have j2 : ((i : Int) - 1).toNat = i - 1 := by omega
            clear hz hst hym
            refine wp_region_quiet_below (by kernel_rfl) (by kernel_rfl) ?_
            repeat (go_big_quiet_step (first | (go_at_call 21; exact Calls.regrown_of ((parent_at (T6.out.below (below_regrown W6 _ _)) HP.out).mono fun e w' ⟨h1, h2⟩ => ⟨h1, h2 ▸ Below.refl _ _⟩))))
            refine wpQuiet_nil ?_
            intro _ hw'
            obtain ⟨⟨dq, osq⟩, hw''⟩ := hw'
            subst hw''
            have hbq : Below W6.heap.size W6 (Go.Sort.grow (redrawn W6 dq) osq) := below_regrown W6 dq osq
            dsimp only
            generalize Go.Sort.grow (redrawn W6 dq) osq = wq at hbq ⊢
            have R7 := Lib.hid (R6.out.of_block (hbq.block I R6.out.lt))
            have B7 := Lib.hid (on B6.out hbq)
            clear k1 hbq
            go_wp2_with fail
            go_roundw
            case rel => exact ⟨i + 1, by omega, by go_num, R7.out, B7.out⟩
            case measure => simp [intOf]; omega
          · have g0 : decide ((0 : Int) < (i : Int)) = false := by simpa using hi0
            clear hym
            refine wp_region_quiet_below (by kernel_rfl) (by kernel_rfl) ?_
            repeat (go_big_quiet_step (first | (fail)))
            refine wpQuiet_nil ?_
            intro _ hw'
            obtain ⟨⟨dq, osq⟩, hw''⟩ := hw'
            subst hw''
            have hbq : Below W6.heap.size W6 (Go.Sort.grow (redrawn W6 dq) osq) := below_regrown W6 dq osq
            dsimp only
            generalize Go.Sort.grow (redrawn W6 dq) osq = wq at hbq ⊢
            have R7 := Lib.hid (R6.out.of_block (hbq.block I R6.out.lt))
            have B7 := Lib.hid (on B6.out hbq)
            clear k1 hbq
            go_wp2_with fail
            go_roundw
            case rel => exact ⟨i + 1, by omega, by go_num, R7.out, B7.out⟩
            case measure => simp [intOf]; omega
        · obtain rfl : i = ls.length := by omega
          have R7 := Lib.hid (RI.out.congr (g := fun c => .bool (decide ((c : Int) ∈ ls))) (fun c _ => by rw [List.take_length]))
          have T7 := Lib.hid (TT.out.below B5.out)
          have B7 := Lib.hid (on BB.out B5.out)
          clear RI B5 TT BB
          have B8 := Lib.hid (Below.refl wr.heap.size wr)
          go_wp2_with fail
          generalize wr = W7 at *
          go_loopw [8] (fun hv wr => ∃ h : Nat, 1 ≤ h ∧ h ≤ 17 ∧ hv = .int .i64 h ∧ Below W7.heap.size W7 wr) (fun hv _ => (17 - intOf hv).toNat)
          case atStart => exact ⟨1, by omega, by omega, rfl, B8.out⟩
          case round =>
            obtain ⟨h, hh1, hh2, rfl, hB9⟩ := hrel
            clear B8
            have B9 := Lib.hid hB9
            have T9 := Lib.hid (T7.out.below hB9)
            have R9 := Lib.hid (R7.out.of_block (hB9.block I R7.out.lt))
            clear hB9
            by_cases hlt3 : h < 17
            · obtain ⟨x, hx⟩ : ∃ x, decide ((h : Int) ∈ ls) = x := ⟨_, rfl⟩
              have HX := Lib.hid ((below_mem HL.out (h := (h : Int))).trans hx)
              have c9 := R9.out.cell hlt3
              rw [hx] at c9
              have k1 := fun d os => cell_regrown c9 d os
              have i2 : (0 : Int) ≤ (h : Int) := by omega
              have i3 : (h : Int) < 17 := by omega
              clear hx c9
              go_wp2_with fail
              refine wp_region_quiet_below (by kernel_rfl) (by kernel_rfl) ?_
              repeat (go_big_quiet_step (first | (go_at_call 22; exact Calls.regrown_of (below_at (T9.out.below (below_regrown wr _ _)) HX.out))))
              refine wpQuiet_nil ?_
              intro _ hw'
              obtain ⟨⟨dq, osq⟩, hw''⟩ := hw'
              subst hw''
              have hbq : Below wr.heap.size wr (Go.Sort.grow (redrawn wr dq) osq) := below_regrown wr dq osq
              dsimp only
              generalize Go.Sort.grow (redrawn wr dq) osq = wq at hbq ⊢
              have B10 := Lib.hid (on B9.out hbq)
              clear k1 hbq
              go_wp2_with fail
              go_roundw
              case rel => exact ⟨h + 1, by omega, by omega, by go_num, B10.out⟩
              case measure => simp [intOf]; omega
            · have B10 := Lib.hid (on B7.out B9.out)
              clear B9 R9 R7
              go_wp2_with fail
              go_roundw
              case rel => exact ⟨k + 1, by omega, by omega, by go_num, T9.out, B10.out⟩
              case measure => simp [intOf]; omega
    · go_wp2_with fail
      refine (many_at TT.out rfl).mono ?_
      rintro e wz ⟨rfl, rfl⟩
      go_wp2_with fail
      go_ret
      exact ⟨rfl, BB.out⟩
end Go.Proofs.Ytkkjnnmjfamkjaa
