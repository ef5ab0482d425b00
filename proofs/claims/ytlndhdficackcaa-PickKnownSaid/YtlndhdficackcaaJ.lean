/- PickAll: the walk. -/
import Derived.Test.YtlndhdficackcaaI
import Derived.Deep.OwnRows
namespace Go.Proofs.Ytlndhdficackcaa
open Go.RowKit Go.Shelf

theorem row_told {wr : World} {g t n : Nat} {F G : Nat → Nat} (h : wr.rowIs g t n (fun d => encN (F d))) (c : Nat) (v : Int) (hv : v = (F c : Int) + 1) (hs : ∀ d, G d = F d + if d = c then 1 else 0) :
    (wr.setCell ⟨g, c, none⟩ (.int .i64 v)).rowIs g t n (fun d => encN (G d)) := by
  refine (h.set c _).congr fun d _ => ?_
  rw [hs]
  by_cases hd : d = c
  · subst hd; subst hv; simp
  · simp [hd]
theorem below_drewN {B : Nat} {a w : World} (h : Below B a w) (n : Nat) : Below B a (w.drewN n) := h.trans ⟨rfl, rfl, rfl, Nat.le_refl _, fun _ _ => rfl⟩
theorem pick_any' (bs : List Bool) (a : Option Addr) (cap : Nat) (n : Int) (len : Nat) (w : World) (hI : IsSl encB w a bs) (hbs : bs.length ≤ 17592186044416) (hl : bs.length = len) :
    Calls Try.prog 9 #[.slice a len cap, .int .i64 n] w fun e w' => e = .returned (.tuple #[.int .i64 (pickA bs n), .bool (pickB bs)]) ∧ Below w.heap.size w w' := by
  subst hl; exact pick_any bs a cap n w hI hbs
theorem next_any' (bs : List Bool) (a : Option Addr) (cap : Nat) (n : Int) (len : Nat) (w : World) (hI : IsSl encB w a bs) (hbs : bs.length ≤ 17592186044416) (hl : bs.length = len) :
    Calls Try.prog 11 #[.slice a len cap, .int .i64 n] w fun e w' => e = .returned (.tuple #[.int .i64 (nextA bs n), .bool (pickB bs)]) ∧ Below w.heap.size w w' := by
  subst hl; exact next_any bs a cap n w hI hbs

set_option maxRecDepth 100000 in
set_option maxHeartbeats 1000000 in
theorem pickall_any (bs : List Bool) (a : Option Addr) (cap : Nat) (f : Int) (w : World) (hI : IsSl encB w a bs) (hcap : bs.length ≤ cap) (hcm : cap ≤ 9223372036854775807) (hnil : a = none → cap = 0) (hn : -9223372036854775808 ≤ f ∧ f ≤ 9223372036854775807) :
    Calls Try.prog 5 #[.slice a bs.length cap, .int .i64 f] w fun e w' => e = .returned (.bool true) ∧ Below w.heap.size w w' := by
  have HI := Lib.hid hI
  have hlen := hI.len
  cases a with
  | none =>
    have h500 : ¬ 40 < bs.length := by have := hnil rfl; omega
    clear hnil hI
    go_enter Try.func5, Try.ntmps5
    go_wp2_with fail
    generalize (none : Option Addr) = a at HI ⊢
    obtain ⟨ys, hys⟩ : ∃ ys : List Bool, ys = bs := ⟨_, rfl⟩
    have hL : ys.length = bs.length := by rw [hys]
    have HI := Lib.hid (show IsSl encB w a ys from by rw [hys]; exact HI.out)
    have hl40 : ys.length ≤ 40 := by omega
    clear hys
    have HT := Lib.hid (tr_len ys)
    have HN := Lib.hid hn
    have HL := Lib.hid hL
    clear hL hn
    go_loop [5, 6] (fun n i => ∃ k : Nat, k ≤ bs.length ∧ i = .int .i64 k ∧ n = .int .i64 (tr (ys.take k)).length) (fun _ i => bs.length - (intOf i).toNat)
    case atStart => exact ⟨0, Nat.zero_le _, rfl, rfl⟩
    case round =>
      obtain ⟨k, hk, rfl, rfl⟩ := hrel
      have hle := Lib.hid (tr_len (ys.take k))
      have hle2 := Lib.hid (List.length_take_le k ys)
      by_cases hlt : k < bs.length
      · obtain ⟨b, off, x, rfl, hxk, hc⟩ := HI.out.at (k := k) (by rw [HL.out]; exact hlt)
        have htk := Lib.hid (take_succ hxk)
        have hll := Lib.hid (show (ys.take k).length = k from by rw [List.length_take, HL.out]; omega)
        have hb : (tr (ys.take k)).length ≤ 40 := by have := hle.out; have := hll.out; omega
        cases x with
        | true =>
          go_wp2_with fail
          go_round
          case rel => exact ⟨k + 1, by omega, by go_num, by rw [htk.out, tr_hit]; simp⟩
          case measure => simp [intOf]; omega
        | false =>
          go_wp2_with fail
          go_round
          case rel => exact ⟨k + 1, by omega, by go_num, by rw [htk.out, tr_miss]⟩
          case measure => simp [intOf]; omega
      · obtain rfl : k = bs.length := by omega
        have he : ys.take bs.length = ys := by rw [← HL.out, List.take_length]
        rw [he]
        clear hle hle2 he
        have hmk := show ∀ w : World, (Instr.makeSlice 27 (.int .i64 (bs.length : Int)) (.int .i64 (bs.length : Int))).run Try.prog w = .ok (.slice (some ⟨w.heap.size, 0, none⟩) bs.length bs.length) (w.alloc (.cells (madeCells #[.int .i64 0] bs.length) 3)) from run_make_row' (P := Try.prog) 27 3 (.int .i64 0) 8 Try.underlying27 info3 rfl .i64 .i64 bs.length (by omega) hlen
        go_wp2_with fail
        clear hmk
        have hg1 := tmod_bd f 1000000 (by omega)
        generalize f.tmod 1000000 = g at *
        have hn40 : (tr ys).length ≤ 40 := by have := HT.out; omega
        have r0 := Lib.hid (World.rowIs_made w (.int .i64 0) bs.length 3)
        have b0 := Lib.hid (show Below w.heap.size w (w.alloc (.cells (madeCells #[.int .i64 0] bs.length) 3)) from (by repeat (first | exact Below.refl _ _ | assumption | refine Below.setCell ?_ (by first | omega | (simp; done) | (simp; omega)) _ | refine Below.drew ?_ | refine Below.alloc ?_ (by first | omega | (simp; done) | (simp; omega)) _ | refine Below.trans ?_ (Below.mono (by assumption) (by first | omega | (simp; done) | (simp; omega))))))
        generalize w.alloc (.cells (madeCells #[.int .i64 0] bs.length) 3) = W at *
        go_loopw [8] (fun i wr => ∃ k : Nat, k ≤ (tr ys).length ∧ i = .int .i64 k ∧ wr.rowIs w.heap.size 3 bs.length (fun c => encN (told ys g k c)) ∧ Below w.heap.size w wr) (fun i _ => (tr ys).length - (intOf i).toNat)
        case atStart => exact ⟨0, Nat.zero_le _, rfl, r0.out, b0.out⟩
        case round =>
          obtain ⟨k, hk, rfl, r1, b1⟩ := hrel
          have R1 := Lib.hid r1
          have B1 := Lib.hid b1
          clear r1 b1 r0 b0
          by_cases hlt : k < (tr ys).length
          · have hq := pk_pick (f := g) (j := k) (show 0 < (tr ys).length by omega)
            have hr := Lib.hid (pk_runs (f := g) (j := k) (show 0 < (tr ys).length by omega))
            have hs := Lib.hid (told_succ ys g k)
            obtain ⟨c, hc⟩ : ∃ c, c = pk ys g k := ⟨_, rfl⟩
            rw [← hc] at hq hr hs
            clear hc
            have HQ := Lib.hid hq
            clear hq
            have hcl : c < bs.length := by
              obtain ⟨h, _⟩ := List.getElem?_eq_some_iff.1 hr.out
              rw [HL.out] at h; exact h
            go_wp2_with fail
            refine (pick_at ys _ _ (g + k) bs.length c true _ (HI.out.below B1.out) (by omega) HL.out HQ.out.1 HQ.out.2).mono ?_
            rintro e w2 ⟨rfl, hb⟩
            replace R1 := Lib.hid (R1.out.of_block (hb.block _ R1.out.lt))
            replace B1 := Lib.hid (on B1.out hb)
            clear hb
            obtain ⟨bb, oo, x, rfl, hxk, hcc⟩ := (HI.out.below B1.out).at (k := c) (by rw [HL.out]; exact hcl)
            obtain rfl : x = true := by rw [hr.out] at hxk; exact (Option.some.inj hxk).symm
            have HX := Lib.hid hxk
            clear hxk
            have hfz := R1.out.frozen c
            have hcd := R1.out.cell hcl
            have htb := told_le ys g k c
            go_wp2_with fail
            go_round
            case rel => exact ⟨k + 1, by omega, by go_num, row_told R1.out c _ (by go_num) hs.out, B1.out.setCell (Nat.le_refl _) _⟩
            case measure => simp [intOf]; omega
          · obtain rfl : k = (tr ys).length := by omega
            replace R1 := Lib.hid (R1.out.congr (fun c _ => congrArg encN (told_all g c)))
            go_wp2_with fail
            go_loopw [11] (fun i wr => ∃ k : Nat, k ≤ bs.length ∧ i = .int .i64 k ∧ wr.rowIs w.heap.size 3 bs.length (fun c => encN (if ys[c]? = some true then 1 else 0)) ∧ Below w.heap.size w wr) (fun i _ => bs.length - (intOf i).toNat)
            case atStart => exact ⟨0, Nat.zero_le _, rfl, R1.out, B1.out⟩
            case round =>
              clear B1 R1
              rename_i wr _ _
              obtain ⟨k, hk, rfl, r1, b1⟩ := hrel
              have R1 := Lib.hid r1
              have B1 := Lib.hid b1
              clear r1 b1
              by_cases hlt : k < bs.length
              · obtain ⟨b, off, x, rfl, hxk, hc⟩ := (HI.out.below B1.out).at (k := k) (by rw [HL.out]; exact hlt)
                have HX := Lib.hid hxk
                have ht := R1.out.cell hlt
                rw [hxk] at ht
                clear hxk
                cases x with
                | true =>
                  simp only [if_true] at ht
                  go_wp2_with fail
                  go_quiet (fail)
                  go_wp2_with fail
                  go_round
                  case rel => exact ⟨k + 1, by omega, by go_num, R1.out, below_drewN B1.out _⟩
                  case measure => simp [intOf]; omega
                | false =>
                  simp only [Option.some.injEq, Bool.false_eq_true, if_false] at ht
                  go_wp2_with fail
                  go_quiet (fail)
                  go_wp2_with fail
                  go_round
                  case rel => exact ⟨k + 1, by omega, by go_num, R1.out, below_drewN B1.out _⟩
                  case measure => simp [intOf]; omega
              · obtain rfl : k = bs.length := by omega
                go_wp2_with fail
                refine (pick_any' ys _ _ g bs.length _ (HI.out.below B1.out) (by omega) HL.out).mono ?_
                rintro e w2 ⟨rfl, hb⟩; replace B1 := Lib.hid (on B1.out hb); clear hb
                go_wp2_with fail
                refine (next_any' ys _ _ g bs.length _ (HI.out.below B1.out) (by omega) HL.out).mono ?_
                rintro e w3 ⟨rfl, hb⟩; replace B1 := Lib.hid (on B1.out hb); clear hb
                rw [show pickB ys = decide ((0 : Int) < (tr ys).length) from by unfold pickB; rcases tr ys with _ | _ <;> simp]
                go_wp2_with fail
                refine (works_any _).mono ?_
                rintro e w4 ⟨rfl, hb⟩; replace B1 := Lib.hid (on B1.out hb); clear hb
                go_wp2_with fail
                go_ret
                exact ⟨rfl, B1.out⟩
  | some ad =>
    obtain ⟨b, off, sp⟩ := ad
    clear hnil hI
    by_cases h500 : 40 < bs.length
    · have h40 := Lib.hid (show (bs.take 40).length = 40 by rw [List.length_take]; omega)
      go_enter Try.func5, Try.ntmps5
      go_wp2_with fail
      generalize (some (⟨b, off, sp⟩ : Addr)) = a at HI ⊢
      obtain ⟨ys, hys⟩ : ∃ ys : List Bool, ys = bs.take 40 := ⟨_, rfl⟩
      have hL : ys.length = 40 := by rw [hys]; exact h40.out
      have HI := Lib.hid (show IsSl encB w a ys from by rw [hys]; exact HI.out.take 40)
      have hl40 : ys.length ≤ 40 := by omega
      clear hys
      have HT := Lib.hid (tr_len ys)
      have HN := Lib.hid hn
      have HL := Lib.hid hL
      clear hL hn
      go_loop [5, 6] (fun n i => ∃ k : Nat, k ≤ 40 ∧ i = .int .i64 k ∧ n = .int .i64 (tr (ys.take k)).length) (fun _ i => 40 - (intOf i).toNat)
      case atStart => exact ⟨0, Nat.zero_le _, rfl, rfl⟩
      case round =>
        obtain ⟨k, hk, rfl, rfl⟩ := hrel
        have hle := Lib.hid (tr_len (ys.take k))
        have hle2 := Lib.hid (List.length_take_le k ys)
        by_cases hlt : k < 40
        · obtain ⟨b, off, x, rfl, hxk, hc⟩ := HI.out.at (k := k) (by rw [HL.out]; exact hlt)
          have htk := Lib.hid (take_succ hxk)
          have hll := Lib.hid (show (ys.take k).length = k from by rw [List.length_take, HL.out]; omega)
          have hb : (tr (ys.take k)).length ≤ 40 := by have := hle.out; have := hll.out; omega
          cases x with
          | true =>
            go_wp2_with fail
            go_round
            case rel => exact ⟨k + 1, by omega, by go_num, by rw [htk.out, tr_hit]; simp⟩
            case measure => simp [intOf]; omega
          | false =>
            go_wp2_with fail
            go_round
            case rel => exact ⟨k + 1, by omega, by go_num, by rw [htk.out, tr_miss]⟩
            case measure => simp [intOf]; omega
        · obtain rfl : k = 40 := by omega
          have he : ys.take 40 = ys := by rw [← HL.out, List.take_length]
          rw [he]
          clear hle hle2 he
          have hmk := show ∀ w : World, (Instr.makeSlice 27 (.int .i64 40) (.int .i64 40)).run Try.prog w = .ok (.slice (some ⟨w.heap.size, 0, none⟩) 40 40) (w.alloc (.cells (madeCells #[.int .i64 0] 40) 3)) from run_make_row' (P := Try.prog) 27 3 (.int .i64 0) 8 Try.underlying27 info3 rfl .i64 .i64 40 (by omega) (by omega)
          go_wp2_with fail
          clear hmk
          have hg1 := tmod_bd f 1000000 (by omega)
          generalize f.tmod 1000000 = g at *
          have hn40 : (tr ys).length ≤ 40 := by have := HT.out; omega
          have r0 := Lib.hid (World.rowIs_made w (.int .i64 0) 40 3)
          have b0 := Lib.hid (show Below w.heap.size w (w.alloc (.cells (madeCells #[.int .i64 0] 40) 3)) from (by repeat (first | exact Below.refl _ _ | assumption | refine Below.setCell ?_ (by first | omega | (simp; done) | (simp; omega)) _ | refine Below.drew ?_ | refine Below.alloc ?_ (by first | omega | (simp; done) | (simp; omega)) _ | refine Below.trans ?_ (Below.mono (by assumption) (by first | omega | (simp; done) | (simp; omega))))))
          generalize w.alloc (.cells (madeCells #[.int .i64 0] 40) 3) = W at *
          go_loopw [8] (fun i wr => ∃ k : Nat, k ≤ (tr ys).length ∧ i = .int .i64 k ∧ wr.rowIs w.heap.size 3 40 (fun c => encN (told ys g k c)) ∧ Below w.heap.size w wr) (fun i _ => (tr ys).length - (intOf i).toNat)
          case atStart => exact ⟨0, Nat.zero_le _, rfl, r0.out, b0.out⟩
          case round =>
            obtain ⟨k, hk, rfl, r1, b1⟩ := hrel
            have R1 := Lib.hid r1
            have B1 := Lib.hid b1
            clear r1 b1 r0 b0
            by_cases hlt : k < (tr ys).length
            · have hq := pk_pick (f := g) (j := k) (show 0 < (tr ys).length by omega)
              have hr := Lib.hid (pk_runs (f := g) (j := k) (show 0 < (tr ys).length by omega))
              have hs := Lib.hid (told_succ ys g k)
              obtain ⟨c, hc⟩ : ∃ c, c = pk ys g k := ⟨_, rfl⟩
              rw [← hc] at hq hr hs
              clear hc
              have HQ := Lib.hid hq
              clear hq
              have hcl : c < 40 := by
                obtain ⟨h, _⟩ := List.getElem?_eq_some_iff.1 hr.out
                rw [HL.out] at h; exact h
              go_wp2_with fail
              refine (pick_at ys _ _ (g + k) 40 c true _ (HI.out.below B1.out) (by omega) HL.out HQ.out.1 HQ.out.2).mono ?_
              rintro e w2 ⟨rfl, hb⟩
              replace R1 := Lib.hid (R1.out.of_block (hb.block _ R1.out.lt))
              replace B1 := Lib.hid (on B1.out hb)
              clear hb
              obtain ⟨bb, oo, x, rfl, hxk, hcc⟩ := (HI.out.below B1.out).at (k := c) (by rw [HL.out]; exact hcl)
              obtain rfl : x = true := by rw [hr.out] at hxk; exact (Option.some.inj hxk).symm
              have HX := Lib.hid hxk
              clear hxk
              have hfz := R1.out.frozen c
              have hcd := R1.out.cell hcl
              have htb := told_le ys g k c
              go_wp2_with fail
              go_round
              case rel => exact ⟨k + 1, by omega, by go_num, row_told R1.out c _ (by go_num) hs.out, B1.out.setCell (Nat.le_refl _) _⟩
              case measure => simp [intOf]; omega
            · obtain rfl : k = (tr ys).length := by omega
              replace R1 := Lib.hid (R1.out.congr (fun c _ => congrArg encN (told_all g c)))
              go_wp2_with fail
              go_loopw [11] (fun i wr => ∃ k : Nat, k ≤ 40 ∧ i = .int .i64 k ∧ wr.rowIs w.heap.size 3 40 (fun c => encN (if ys[c]? = some true then 1 else 0)) ∧ Below w.heap.size w wr) (fun i _ => 40 - (intOf i).toNat)
              case atStart => exact ⟨0, Nat.zero_le _, rfl, R1.out, B1.out⟩
              case round =>
                clear B1 R1
                rename_i wr _ _
                obtain ⟨k, hk, rfl, r1, b1⟩ := hrel
                have R1 := Lib.hid r1
                have B1 := Lib.hid b1
                clear r1 b1
                by_cases hlt : k < 40
                · obtain ⟨b, off, x, rfl, hxk, hc⟩ := (HI.out.below B1.out).at (k := k) (by rw [HL.out]; exact hlt)
                  have HX := Lib.hid hxk
                  have ht := R1.out.cell hlt
                  rw [hxk] at ht
                  clear hxk
                  cases x with
                  | true =>
                    simp only [if_true] at ht
                    go_wp2_with fail
                    go_quiet (fail)
                    go_wp2_with fail
                    go_round
                    case rel => exact ⟨k + 1, by omega, by go_num, R1.out, below_drewN B1.out _⟩
                    case measure => simp [intOf]; omega
                  | false =>
                    simp only [Option.some.injEq, Bool.false_eq_true, if_false] at ht
                    go_wp2_with fail
                    go_quiet (fail)
                    go_wp2_with fail
                    go_round
                    case rel => exact ⟨k + 1, by omega, by go_num, R1.out, below_drewN B1.out _⟩
                    case measure => simp [intOf]; omega
                · obtain rfl : k = 40 := by omega
                  go_wp2_with fail
                  refine (pick_any' ys _ _ g 40 _ (HI.out.below B1.out) (by omega) HL.out).mono ?_
                  rintro e w2 ⟨rfl, hb⟩; replace B1 := Lib.hid (on B1.out hb); clear hb
                  go_wp2_with fail
                  refine (next_any' ys _ _ g 40 _ (HI.out.below B1.out) (by omega) HL.out).mono ?_
                  rintro e w3 ⟨rfl, hb⟩; replace B1 := Lib.hid (on B1.out hb); clear hb
                  rw [show pickB ys = decide ((0 : Int) < (tr ys).length) from by unfold pickB; rcases tr ys with _ | _ <;> simp]
                  go_wp2_with fail
                  refine (works_any _).mono ?_
                  rintro e w4 ⟨rfl, hb⟩; replace B1 := Lib.hid (on B1.out hb); clear hb
                  go_wp2_with fail
                  go_ret
                  exact ⟨rfl, B1.out⟩
    · go_enter Try.func5, Try.ntmps5
      go_wp2_with fail
      generalize (some (⟨b, off, sp⟩ : Addr)) = a at HI ⊢
      obtain ⟨ys, hys⟩ : ∃ ys : List Bool, ys = bs := ⟨_, rfl⟩
      have hL : ys.length = bs.length := by rw [hys]
      have HI := Lib.hid (show IsSl encB w a ys from by rw [hys]; exact HI.out)
      have hl40 : ys.length ≤ 40 := by omega
      clear hys
      have HT := Lib.hid (tr_len ys)
      have HN := Lib.hid hn
      have HL := Lib.hid hL
      clear hL hn
      go_loop [5, 6] (fun n i => ∃ k : Nat, k ≤ bs.length ∧ i = .int .i64 k ∧ n = .int .i64 (tr (ys.take k)).length) (fun _ i => bs.length - (intOf i).toNat)
      case atStart => exact ⟨0, Nat.zero_le _, rfl, rfl⟩
      case round =>
        obtain ⟨k, hk, rfl, rfl⟩ := hrel
        have hle := Lib.hid (tr_len (ys.take k))
        have hle2 := Lib.hid (List.length_take_le k ys)
        by_cases hlt : k < bs.length
        · obtain ⟨b, off, x, rfl, hxk, hc⟩ := HI.out.at (k := k) (by rw [HL.out]; exact hlt)
          have htk := Lib.hid (take_succ hxk)
          have hll := Lib.hid (show (ys.take k).length = k from by rw [List.length_take, HL.out]; omega)
          have hb : (tr (ys.take k)).length ≤ 40 := by have := hle.out; have := hll.out; omega
          cases x with
          | true =>
            go_wp2_with fail
            go_round
            case rel => exact ⟨k + 1, by omega, by go_num, by rw [htk.out, tr_hit]; simp⟩
            case measure => simp [intOf]; omega
          | false =>
            go_wp2_with fail
            go_round
            case rel => exact ⟨k + 1, by omega, by go_num, by rw [htk.out, tr_miss]⟩
            case measure => simp [intOf]; omega
        · obtain rfl : k = bs.length := by omega
          have he : ys.take bs.length = ys := by rw [← HL.out, List.take_length]
          rw [he]
          clear hle hle2 he
          have hmk := show ∀ w : World, (Instr.makeSlice 27 (.int .i64 (bs.length : Int)) (.int .i64 (bs.length : Int))).run Try.prog w = .ok (.slice (some ⟨w.heap.size, 0, none⟩) bs.length bs.length) (w.alloc (.cells (madeCells #[.int .i64 0] bs.length) 3)) from run_make_row' (P := Try.prog) 27 3 (.int .i64 0) 8 Try.underlying27 info3 rfl .i64 .i64 bs.length (by omega) hlen
          go_wp2_with fail
          clear hmk
          have hg1 := tmod_bd f 1000000 (by omega)
          generalize f.tmod 1000000 = g at *
          have hn40 : (tr ys).length ≤ 40 := by have := HT.out; omega
          have r0 := Lib.hid (World.rowIs_made w (.int .i64 0) bs.length 3)
          have b0 := Lib.hid (show Below w.heap.size w (w.alloc (.cells (madeCells #[.int .i64 0] bs.length) 3)) from (by repeat (first | exact Below.refl _ _ | assumption | refine Below.setCell ?_ (by first | omega | (simp; done) | (simp; omega)) _ | refine Below.drew ?_ | refine Below.alloc ?_ (by first | omega | (simp; done) | (simp; omega)) _ | refine Below.trans ?_ (Below.mono (by assumption) (by first | omega | (simp; done) | (simp; omega))))))
          generalize w.alloc (.cells (madeCells #[.int .i64 0] bs.length) 3) = W at *
          go_loopw [8] (fun i wr => ∃ k : Nat, k ≤ (tr ys).length ∧ i = .int .i64 k ∧ wr.rowIs w.heap.size 3 bs.length (fun c => encN (told ys g k c)) ∧ Below w.heap.size w wr) (fun i _ => (tr ys).length - (intOf i).toNat)
          case atStart => exact ⟨0, Nat.zero_le _, rfl, r0.out, b0.out⟩
          case round =>
            obtain ⟨k, hk, rfl, r1, b1⟩ := hrel
            have R1 := Lib.hid r1
            have B1 := Lib.hid b1
            clear r1 b1 r0 b0
            by_cases hlt : k < (tr ys).length
            · have hq := pk_pick (f := g) (j := k) (show 0 < (tr ys).length by omega)
              have hr := Lib.hid (pk_runs (f := g) (j := k) (show 0 < (tr ys).length by omega))
              have hs := Lib.hid (told_succ ys g k)
              obtain ⟨c, hc⟩ : ∃ c, c = pk ys g k := ⟨_, rfl⟩
              rw [← hc] at hq hr hs
              clear hc
              have HQ := Lib.hid hq
              clear hq
              have hcl : c < bs.length := by
                obtain ⟨h, _⟩ := List.getElem?_eq_some_iff.1 hr.out
                rw [HL.out] at h; exact h
              go_wp2_with fail
              refine (pick_at ys _ _ (g + k) bs.length c true _ (HI.out.below B1.out) (by omega) HL.out HQ.out.1 HQ.out.2).mono ?_
              rintro e w2 ⟨rfl, hb⟩
              replace R1 := Lib.hid (R1.out.of_block (hb.block _ R1.out.lt))
              replace B1 := Lib.hid (on B1.out hb)
              clear hb
              obtain ⟨bb, oo, x, rfl, hxk, hcc⟩ := (HI.out.below B1.out).at (k := c) (by rw [HL.out]; exact hcl)
              obtain rfl : x = true := by rw [hr.out] at hxk; exact (Option.some.inj hxk).symm
              have HX := Lib.hid hxk
              clear hxk
              have hfz := R1.out.frozen c
              have hcd := R1.out.cell hcl
              have htb := told_le ys g k c
              go_wp2_with fail
              go_round
              case rel => exact ⟨k + 1, by omega, by go_num, row_told R1.out c _ (by go_num) hs.out, B1.out.setCell (Nat.le_refl _) _⟩
              case measure => simp [intOf]; omega
            · obtain rfl : k = (tr ys).length := by omega
              replace R1 := Lib.hid (R1.out.congr (fun c _ => congrArg encN (told_all g c)))
              go_wp2_with fail
              go_loopw [11] (fun i wr => ∃ k : Nat, k ≤ bs.length ∧ i = .int .i64 k ∧ wr.rowIs w.heap.size 3 bs.length (fun c => encN (if ys[c]? = some true then 1 else 0)) ∧ Below w.heap.size w wr) (fun i _ => bs.length - (intOf i).toNat)
              case atStart => exact ⟨0, Nat.zero_le _, rfl, R1.out, B1.out⟩
              case round =>
                clear B1 R1
                rename_i wr _ _
                obtain ⟨k, hk, rfl, r1, b1⟩ := hrel
                have R1 := Lib.hid r1
                have B1 := Lib.hid b1
                clear r1 b1
                by_cases hlt : k < bs.length
                · obtain ⟨b, off, x, rfl, hxk, hc⟩ := (HI.out.below B1.out).at (k := k) (by rw [HL.out]; exact hlt)
                  have HX := Lib.hid hxk
                  have ht := R1.out.cell hlt
                  rw [hxk] at ht
                  clear hxk
                  cases x with
                  | true =>
                    simp only [if_true] at ht
                    go_wp2_with fail
                    go_quiet (fail)
                    go_wp2_with fail
                    go_round
                    case rel => exact ⟨k + 1, by omega, by go_num, R1.out, below_drewN B1.out _⟩
                    case measure => simp [intOf]; omega
                  | false =>
                    simp only [Option.some.injEq, Bool.false_eq_true, if_false] at ht
                    go_wp2_with fail
                    go_quiet (fail)
                    go_wp2_with fail
                    go_round
                    case rel => exact ⟨k + 1, by omega, by go_num, R1.out, below_drewN B1.out _⟩
                    case measure => simp [intOf]; omega
                · obtain rfl : k = bs.length := by omega
                  go_wp2_with fail
                  refine (pick_any' ys _ _ g bs.length _ (HI.out.below B1.out) (by omega) HL.out).mono ?_
                  rintro e w2 ⟨rfl, hb⟩; replace B1 := Lib.hid (on B1.out hb); clear hb
                  go_wp2_with fail
                  refine (next_any' ys _ _ g bs.length _ (HI.out.below B1.out) (by omega) HL.out).mono ?_
                  rintro e w3 ⟨rfl, hb⟩; replace B1 := Lib.hid (on B1.out hb); clear hb
                  rw [show pickB ys = decide ((0 : Int) < (tr ys).length) from by unfold pickB; rcases tr ys with _ | _ <;> simp]
                  go_wp2_with fail
                  refine (works_any _).mono ?_
                  rintro e w4 ⟨rfl, hb⟩; replace B1 := Lib.hid (on B1.out hb); clear hb
                  go_wp2_with fail
                  go_ret
                  exact ⟨rfl, B1.out⟩
theorem pickall_arg {bs : List Bool} {a : Option Addr} {len cap : Nat} {n : Int} {w : World} (A : ArgSl encB w a len cap bs) (hn : -9223372036854775808 ≤ n ∧ n ≤ 9223372036854775807) :
    Calls Try.prog 5 #[.slice a len cap, .int .i64 n] w fun e w' => e = .returned (.bool true) ∧ Below w.heap.size w w' := by
  have := pickall_any bs a cap n w A.hsl (by rw [A.hlen]; exact A.hle) A.hmax A.hnil hn
  rwa [A.hlen] at this
end Go.Proofs.Ytlndhdficackcaa
