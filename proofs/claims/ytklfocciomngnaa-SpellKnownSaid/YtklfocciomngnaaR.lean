/- SpellKnown. -/
import Derived.Test.YtklfocciomngnaaQ
import Derived.BigQuiet
import Derived.IntWalk
import Derived.Lib.QuietBelow
import Derived.Deep.DrawnRows
namespace Go.Proofs.Ytklfocciomngnaa
open Go.RowKit Go.Lib

attribute [local go_sem ↓] Go.wp_at_zero Go.wp_at_succ
theorem enc_sz {r : Int} (h : VR r) : (Utf8.encode r).size ≤ 4 := by
  have h1 := congrArg List.length (enc_utf8 h)
  have := (encodeRune_len r).2
  rw [Array.length_toList] at h1
  show (Utf8.encode r).data.size ≤ 4
  omega
abbrev encS (s : ByteArray) : Value := .string s
def moreL : List ByteArray := [⟨#[255, 254]⟩, ⟨#[97, 195]⟩, ⟨#[237, 160, 128]⟩, ⟨#[240, 159, 152, 128]⟩, ⟨#[230, 151, 165, 230, 156, 172]⟩, ⟨#[97, 97, 97, 97, 97, 97, 97, 97, 97, 97, 97, 97, 97, 97, 97, 97]⟩, ⟨#[97, 97, 97, 97, 97, 97, 97, 97, 97, 97, 97, 97, 97, 97, 97, 97, 97]⟩, ⟨#[195, 164, 195, 182, 195, 188, 195, 164, 195, 182, 195, 188, 195, 164, 195, 182, 195, 188, 195, 164, 195, 182, 195, 188, 195, 164, 195, 182, 195, 188, 195, 164]⟩, ⟨#[195, 164, 195, 182, 195, 188, 195, 164, 195, 182, 195, 188, 195, 164, 195, 182, 195, 188, 195, 164, 195, 182, 195, 188, 195, 164, 195, 182, 195, 188, 195, 164, 195, 182]⟩, ⟨#[97, 0]⟩, ⟨#[45, 97]⟩, ⟨#[95, 97]⟩, ⟨#[97, 45, 95, 57]⟩]
theorem more_len : moreL.length = 13 := by kernel_rfl
theorem more_sz : ∀ s ∈ moreL, s.size ≤ 64 := by
  intro s hs
  have : moreL.all (fun s => decide (s.size ≤ 64)) = true := by kernel_rfl
  exact of_decide_eq_true (List.all_eq_true.1 this s hs)
/-- the thirteen texts lie in block b -/
def Mo (w : World) (b : Nat) : Prop := ∀ i x, moreL[i]? = some x → w.cell? ⟨b, i, none⟩ = some (encS x)
theorem Mo.below {w w' : World} {b : Nat} (h : Mo w b) (hb : Below w.heap.size w w') : Mo w' b := fun i x hx => below_cell hb (Nat.le_refl _) (h i x hx)
theorem Mo.at {w : World} {b : Nat} (h : Mo w b) {i : Nat} (hi : i < 13) : ∃ s, w.cell? ⟨b, i, none⟩ = some (.string s) ∧ s.size ≤ 64 := by
  have hx : moreL[i]? = some moreL[i] := List.getElem?_eq_getElem _
  exact ⟨_, h i _ hx, more_sz _ (List.mem_of_getElem? hx)⟩
theorem mo_new (w : World) (cs : Array Value) (t : TypeId) (hc : cs.toList = moreL.map encS) : Mo (w.alloc (.cells cs t)) w.heap.size := fun i x hx => by
  rw [World.cell?, show (w.alloc _).heap[w.heap.size]? = _ from heap_alloc_new w _]
  have : cs[i]? = some (encS x) := by rw [← Array.getElem?_toList, hc, List.getElem?_map, hx]; rfl
  simpa using this
set_option maxRecDepth 100000 in
set_option maxHeartbeats 4000000 in
theorem known_any (w : World) : Calls Try.prog 9 #[] w fun e w' => e = .returned (.bool true) ∧ Below w.heap.size w w' := by
  go_enter Try.func9, Try.ntmps9
  go_wp2_with fail
  go_loopw [1] (fun rv wr => ∃ r : Int, 0 ≤ r ∧ r ≤ 1280 ∧ rv = .int .i32 r ∧ Below w.heap.size w wr) (fun rv _ => (1280 - RowKit.intOf rv).toNat)
  case atStart => exact ⟨0, by omega, by omega, rfl, Below.refl _ _⟩
  case round =>
    obtain ⟨r, h0, h1, rfl, hB⟩ := hrel
    have B0 := Lib.hid hB
    clear hB
    by_cases hr : r < 1280
    · have Z := Lib.hid (enc_sz (r := r) ⟨h0, by omega, by omega⟩)
      have Z2 := Lib.hid (enc_sz (r := r + 32) ⟨by omega, by omega, by omega⟩)
      have Z3 := Lib.hid (show ((⟨#[97]⟩ : ByteArray) ++ Utf8.encode r).size ≤ 5 by rw [ByteArray.size_append]; have := Z.out; have : (⟨#[97]⟩ : ByteArray).size = 1 := rfl; omega)
      have hz := Z.out
      have hz2 := Z2.out
      have hz3 := Z3.out
      go_wp2_with fail
      refine (names_any _ _ (Nat.le_trans Z.out (by decide))).mono ?_
      rintro e w' ⟨rfl, hb⟩
      replace B0 := Lib.hid (on B0.out hb)
      clear hb
      go_wp2_with fail
      refine (names_any _ _ (Nat.le_trans Z3.out (by decide))).mono ?_
      rintro e w' ⟨rfl, hb⟩
      replace B0 := Lib.hid (on B0.out hb)
      clear hb
      go_wp2_with fail
      refine (foldlaw_any _ _ (Nat.le_trans Z.out (by decide))).mono ?_
      rintro e w' ⟨rfl, hb⟩
      replace B0 := Lib.hid (on B0.out hb)
      clear hb
      go_wp2_with fail
      refine (pairs_any _ _ _ (Nat.le_trans Z.out (by decide)) (Nat.le_trans Z2.out (by decide))).mono ?_
      rintro e w' ⟨rfl, hb⟩
      replace B0 := Lib.hid (on B0.out hb)
      clear hb
      go_wp2_with fail
      go_roundw
      case rel => exact ⟨r + 1, by omega, by omega, by go_num, B0.out⟩
      case measure => simp [RowKit.intOf]; omega
    · go_wp2_with fail
      have M0 := Lib.hid (mo_new wr #[.string ⟨#[255, 254]⟩, .string ⟨#[97, 195]⟩, .string ⟨#[237, 160, 128]⟩, .string ⟨#[240, 159, 152, 128]⟩, .string ⟨#[230, 151, 165, 230, 156, 172]⟩, .string ⟨#[97, 97, 97, 97, 97, 97, 97, 97, 97, 97, 97, 97, 97, 97, 97, 97]⟩, .string ⟨#[97, 97, 97, 97, 97, 97, 97, 97, 97, 97, 97, 97, 97, 97, 97, 97, 97]⟩, .string ⟨#[195, 164, 195, 182, 195, 188, 195, 164, 195, 182, 195, 188, 195, 164, 195, 182, 195, 188, 195, 164, 195, 182, 195, 188, 195, 164, 195, 182, 195, 188, 195, 164]⟩, .string ⟨#[195, 164, 195, 182, 195, 188, 195, 164, 195, 182, 195, 188, 195, 164, 195, 182, 195, 188, 195, 164, 195, 182, 195, 188, 195, 164, 195, 182, 195, 188, 195, 164, 195, 182]⟩, .string ⟨#[97, 0]⟩, .string ⟨#[45, 97]⟩, .string ⟨#[95, 97]⟩, .string ⟨#[97, 45, 95, 57]⟩] 9 rfl)
      have hsz := B0.out.size
      replace B0 := Lib.hid (B0.out.alloc hsz (.cells #[.string ⟨#[255, 254]⟩, .string ⟨#[97, 195]⟩, .string ⟨#[237, 160, 128]⟩, .string ⟨#[240, 159, 152, 128]⟩, .string ⟨#[230, 151, 165, 230, 156, 172]⟩, .string ⟨#[97, 97, 97, 97, 97, 97, 97, 97, 97, 97, 97, 97, 97, 97, 97, 97]⟩, .string ⟨#[97, 97, 97, 97, 97, 97, 97, 97, 97, 97, 97, 97, 97, 97, 97, 97, 97]⟩, .string ⟨#[195, 164, 195, 182, 195, 188, 195, 164, 195, 182, 195, 188, 195, 164, 195, 182, 195, 188, 195, 164, 195, 182, 195, 188, 195, 164, 195, 182, 195, 188, 195, 164]⟩, .string ⟨#[195, 164, 195, 182, 195, 188, 195, 164, 195, 182, 195, 188, 195, 164, 195, 182, 195, 188, 195, 164, 195, 182, 195, 188, 195, 164, 195, 182, 195, 188, 195, 164, 195, 182]⟩, .string ⟨#[97, 0]⟩, .string ⟨#[45, 97]⟩, .string ⟨#[95, 97]⟩, .string ⟨#[97, 45, 95, 57]⟩] 9))
      obtain ⟨MB, hMB⟩ : ∃ b, wr.heap.size = b := ⟨_, rfl⟩
      rw [hMB] at M0
      go_wp2_with fail
      try rw [hMB]
      try simp only [hMB]
      clear hMB
      go_loopw [4] (fun iv wt => ∃ i : Nat, i ≤ 13 ∧ iv = .int .i64 i ∧ Mo wt MB ∧ Below w.heap.size w wt) (fun iv _ => 13 - (RowKit.intOf iv).toNat)
      case atStart => exact ⟨0, by omega, rfl, M0.out, B0.out⟩
      case round =>
        clear M0 B0
        obtain ⟨i, hi, rfl, hM, hB⟩ := hrel
        have MO := Lib.hid hM
        have BB := Lib.hid hB
        clear hM hB
        by_cases hlt : i < 13
        · obtain ⟨s, c0, zs⟩ := MO.out.at hlt
          have C0 := Lib.hid c0
          have ZS := Lib.hid zs
          have j0 : (0 : Int) ≤ (i : Int) := by omega
          have j1 : (i : Int) < 13 := by omega
          clear c0 zs
          go_wp2_with fail
          obtain ⟨W4, hW4⟩ : ∃ W4, W4 = wr := ⟨_, rfl⟩
          subst hW4
          go_loopw [5] (fun kv wx => ∃ k : Int, -1 ≤ k ∧ k ≤ 19 ∧ kv = .int .i64 k ∧ wx.cell? ⟨MB, i, none⟩ = some (.string s) ∧ Below W4.heap.size W4 wx) (fun kv _ => (19 - RowKit.intOf kv).toNat)
          case atStart => exact ⟨-1, by omega, by omega, rfl, C0.out, Below.refl _ _⟩
          case round =>
            obtain ⟨k, k0, k1, rfl, c0, hb⟩ := hrel
            have BX := Lib.hid hb
            clear hb
            by_cases hk : k < 19
            · go_wp2_with fail
              refine (cuts_any s k _ (Nat.le_trans ZS.out (by decide)) (by omega) (by omega)).mono ?_
              rintro e w2 ⟨rfl, hb⟩
              have c1 := below_cell hb (Nat.le_refl _) c0
              replace BX := Lib.hid (on BX.out hb)
              clear hb c0
              go_wp2_with fail
              refine (cutlaw_any s k _ (Nat.le_trans ZS.out (by decide)) (by omega) (by omega)).mono ?_
              rintro e w3 ⟨rfl, hb⟩
              have C2 := Lib.hid (below_cell hb (Nat.le_refl _) c1)
              replace BX := Lib.hid (on BX.out hb)
              clear hb c1
              go_wp2_with fail
              go_roundw
              case rel => exact ⟨k + 1, by omega, by omega, by go_num, C2.out, BX.out⟩
              case measure => simp [RowKit.intOf]; omega
            · have MX := Lib.hid (MO.out.below BX.out)
              have t0 : (0 : Int) ≤ ((i : Int) + 1).tmod 13 := Int.tmod_nonneg _ (by omega)
              have t1 : ((i : Int) + 1).tmod 13 < 13 := Int.tmod_lt_of_pos _ (by omega)
              obtain ⟨s2, c2, z2⟩ := MX.out.at (i := (i + 1) % 13) (Nat.mod_lt _ (by decide))
              have Z2 := Lib.hid z2
              clear z2
              go_wp2_with fail
              have k1 := fun d os => cell_regrown c0 d os
              have k2 := fun d os => cell_regrown c2 d os
              refine wp_region_quiet_below (by kernel_rfl) (by kernel_rfl) ?_
              repeat (go_big_quiet_step (first | (first | (go_at_call 3; exact Calls.regrown_of (names_any _ _ (Nat.le_trans ZS.out (by decide)))) | (go_at_call 6; exact Calls.regrown_of (foldlaw_any _ _ (Nat.le_trans ZS.out (by decide)))) | (go_at_call 4; exact Calls.regrown_of (pairs_any _ _ _ (Nat.le_trans ZS.out (by decide)) (Nat.le_trans Z2.out (by decide)))))))
              refine wpQuiet_nil ?_
              intro _ hw'
              obtain ⟨⟨dq, osq⟩, hw''⟩ := hw'
              subst hw''
              have hbq : Below wr.heap.size wr (Go.Sort.grow (redrawn wr dq) osq) := below_regrown wr dq osq
              dsimp only
              generalize Go.Sort.grow (redrawn wr dq) osq = wq at hbq ⊢
              replace BB := Lib.hid (on (on BB.out BX.out) hbq)
              have MY := Lib.hid (MX.out.below hbq)
              clear hbq c0 c2 k1 k2
              go_wp2_with fail
              go_roundw
              case rel => exact ⟨i + 1, by omega, by go_num, MY.out, BB.out⟩
              case measure => simp [RowKit.intOf]; omega
        · go_wp2_with fail
          refine (works_any _).mono ?_
          rintro e w' ⟨rfl, hb⟩
          replace BB := Lib.hid (on BB.out hb)
          clear hb
          go_wp2_with fail
          go_ret
          exact ⟨rfl, BB.out⟩
end Go.Proofs.Ytklfocciomngnaa
