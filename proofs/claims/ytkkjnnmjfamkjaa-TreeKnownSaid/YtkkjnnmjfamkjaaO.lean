/- TreeHeirs. -/
import Derived.Test.YtkkjnnmjfamkjaaN
namespace Go.Proofs.Ytkkjnnmjfamkjaa
open Go.RowKit Go.Shelf

attribute [local go_sem ↓] Go.wp_at_zero Go.wp_at_succ
/-- where the heir stands -/
theorem heir_spec {T : List Gp} (wf : WfT T) {g : Int} {x : Gp} (hg : gAt T g = some x) : ∃ j, j < (path T g).length ∧ (path T g)[j]? = some (heirT T g) ∧ onT T (heirT T g) = true ∧ (∀ i z, i < j → (path T g)[i]? = some z → onT T z = false ∧ z ≠ heirT T g) := by
  have h1 := (path_spec wf g.toNat g x (by omega) hg).2.1
  have on1 : onT T 1 = true := by
    unfold onT gAt
    rw [if_pos (by omega)]
    have := wf.root
    simp only [Int.sub_self, Int.toNat_zero]
    rw [this]; rfl
  have hm : ∃ z, z ∈ path T g ∧ onT T z = true := ⟨1, List.mem_of_getElem? h1, on1⟩
  have hf : ∃ y, (path T g).find? (onT T) = some y := by
    cases h : (path T g).find? (onT T) with
    | none => obtain ⟨z, hz, ho⟩ := hm; have := List.find?_eq_none.1 h z hz; exact absurd ho this
    | some y => exact ⟨y, rfl⟩
  obtain ⟨y, hy⟩ := hf
  have hh : heirT T g = y := by unfold heirT; rw [hy]; rfl
  rw [hh]
  obtain ⟨ho, us, bs, hl, hno⟩ := List.find?_eq_some_iff_append.1 hy
  refine ⟨us.length, by rw [hl]; simp, by rw [hl, List.getElem?_append_right (Nat.le_refl _)]; simp, ho, fun i z hi hz => ?_⟩
  rw [hl, List.getElem?_append_left hi] at hz
  have := hno z (List.mem_of_getElem? hz)
  have hz2 : onT T z = false := by simpa using this
  exact ⟨hz2, fun e => by rw [e, ho] at hz2; cases hz2⟩
theorem heir_on {T : List Gp} (wf : WfT T) {g : Int} {x : Gp} (hg : gAt T g = some x) : onT T g = decide (heirT T g = g) := by
  obtain ⟨j, hj, h1, h2, h3⟩ := heir_spec wf hg
  have h0 := (path_spec wf g.toNat g x (by omega) hg).1
  rcases Nat.eq_zero_or_pos j with e | e
  · subst e
    rw [h0] at h1
    rw [← Option.some.inj h1] at h2
    rw [h2]
    simp [(Option.some.inj h1).symm]
  · obtain ⟨a, b⟩ := h3 0 g e h0
    rw [a]
    simp [Ne.symm b]
set_option maxRecDepth 100000 in
set_option maxHeartbeats 1000000 in
theorem heirs_any (l : List Dw) (a : Option Addr) (cap : Nat) (w : World) (hI : IsDos w a l) (hlen : l.length ≤ 9223372036854775807) :
    Calls Try.prog 5 #[.slice a l.length cap] w fun e w' => e = .returned (.bool true) ∧ Below w.heap.size w w' := by
  have II := Lib.hid hI
  clear hI
  go_enter Try.func5, Try.ntmps5
  go_wp2_with fail
  refine (grown_any l a cap _ II.out hlen).mono ?_
  rintro e w2 ⟨B, rfl, hT, hb⟩
  obtain ⟨base, hbase⟩ : ∃ b, w.heap.size = b := ⟨_, rfl⟩
  obtain ⟨T, hTe⟩ : ∃ T, grT l = T := ⟨_, rfl⟩
  have BB := Lib.hid hb
  rw [hbase, hTe] at hT
  have TT := Lib.hid hT
  have hl1 := hT.wf.pos
  have hl2 := hT.wf.le
  have WF := Lib.hid hT.wf
  clear hT hb hbase hTe II
  go_wp2_with fail
  go_loopw [4] (fun gv wr => ∃ k : Nat, 1 ≤ k ∧ k ≤ T.length + 1 ∧ gv = .int .i64 k ∧ Tr wr base B T ∧ Below w.heap.size w wr) (fun gv _ => (17 - intOf gv).toNat)
  case atStart => exact ⟨1, by omega, by omega, rfl, TT.out, BB.out⟩
  case round =>
    obtain ⟨k, hk1, hk2, rfl, hT, hB⟩ := hrel
    clear TT BB
    have TT := Lib.hid hT
    have BB := Lib.hid hB
    clear hT hB
    by_cases hlt : k ≤ T.length
    · obtain ⟨x, hx⟩ := gAt_some (T := T) (g := (k : Int)) (by omega) (by omega)
      obtain ⟨ls, hls⟩ : ∃ l, path T (k : Int) = l := ⟨_, rfl⟩
      obtain ⟨hr, hhr⟩ : ∃ h, heirT T (k : Int) = h := ⟨_, rfl⟩
      have hsp := heir_spec WF.out hx
      have hon := heir_on WF.out hx
      have hpl := path_len WF.out k
      rw [hls, hhr] at hsp
      rw [hls] at hpl
      rw [hhr] at hon
      obtain ⟨j, hj, hj1, hj2, hj3⟩ := hsp
      have HL := Lib.hid hls
      have HH := Lib.hid hhr
      have HON := Lib.hid hon
      have J1 := Lib.hid hj1
      have J2 := Lib.hid hj2
      have J3 := Lib.hid hj3
      clear hls hhr hon hj1 hj2 hj3 hx
      go_wp2_with fail
      refine (many_at TT.out rfl).mono ?_
      rintro e wz ⟨rfl, rfl⟩
      go_wp2_with fail
      refine (path_at TT.out HL.out).mono ?_
      rintro e w3 ⟨a3, c3, rfl, ho, hs, hb⟩
      replace TT := Lib.hid (TT.out.below hb)
      replace BB := Lib.hid (on BB.out hb)
      have LS := Lib.hid hs
      clear ho hs hb
      go_wp2_with fail
      refine (heir_at TT.out HH.out).mono ?_
      rintro e w4 ⟨rfl, hb⟩
      replace TT := Lib.hid (TT.out.below hb)
      replace BB := Lib.hid (on BB.out hb)
      replace LS := Lib.hid (LS.out.below hb)
      clear hb
      go_wp2_with fail
      go_loop [7] (fun iv => ∃ i : Nat, i ≤ j ∧ iv = .int .i64 i) (fun iv => j - (intOf iv).toNat)
      case atStart => exact ⟨0, by omega, rfl⟩
      case round =>
        obtain ⟨i, hi, rfl⟩ := hrel
        obtain ⟨b3, o3, y, rfl, hy, c0⟩ := LS.out.at (k := i) (by omega)
        have HY := Lib.hid hy
        clear hy
        by_cases hij : i < j
        · have h3 := J3.out i y hij HY.out
          have hne : (y != hr) = true := by simpa using h3.2
          have HO := Lib.hid h3.1
          clear h3
          go_wp2_with fail
          refine (online_at TT.out HO.out).mono ?_
          rintro e wz ⟨rfl, rfl⟩
          go_wp2_with fail
          go_round
          case rel => exact ⟨i + 1, by omega, by go_num⟩
          case measure => simp [intOf]; omega
        · obtain rfl : i = j := by omega
          obtain rfl : y = hr := by have := HY.out; rw [J1.out] at this; exact (Option.some.inj this).symm
          have hbl : ((i : Int) == (ls.length : Int)) = false := by simp; omega
          obtain ⟨bx, hbx⟩ : ∃ b, onT T (k : Int) = b := ⟨_, rfl⟩
          have HB := Lib.hid hbx
          have hbe : (y == (k : Int)) = bx := by rw [← hbx, HON.out]; rw [Bool.eq_iff_iff]; simp
          clear hbx
          go_wp2_with fail
          refine (online_at TT.out J2.out).mono ?_
          rintro e wz ⟨rfl, rfl⟩
          go_wp2_with fail
          refine (online_at TT.out HB.out).mono ?_
          rintro e wz ⟨rfl, rfl⟩
          go_wp2_with fail
          go_roundw
          case rel => exact ⟨k + 1, by omega, by omega, by go_num, TT.out, BB.out⟩
          case measure => simp [intOf]; omega
    · obtain ⟨x, hx⟩ := gAt_some (T := T) (g := 1) (by omega) (by omega)
      have on1 : onT T 1 = true := by
        unfold onT gAt
        rw [if_pos (by omega)]
        have := WF.out.root
        simp only [Int.sub_self, Int.toNat_zero]
        rw [this]; rfl
      have H1 := Lib.hid on1
      clear on1 hx
      go_wp2_with fail
      refine (many_at TT.out rfl).mono ?_
      rintro e wz ⟨rfl, rfl⟩
      go_wp2_with fail
      refine (online_at TT.out H1.out).mono ?_
      rintro e wz ⟨rfl, rfl⟩
      go_wp2_with fail
      refine (works_any _).mono ?_
      rintro e wz ⟨rfl, hb⟩
      replace BB := Lib.hid (on BB.out hb)
      clear hb
      go_wp2_with fail
      go_ret
      exact ⟨rfl, BB.out⟩
end Go.Proofs.Ytkkjnnmjfamkjaa
