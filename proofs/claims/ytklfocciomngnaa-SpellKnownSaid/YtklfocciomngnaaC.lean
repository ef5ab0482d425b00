/- Letters: small and fold, and the reference's. -/
import Derived.Test.YtklfocciomngnaaB
import Derived.IntWalk
namespace Go.Proofs.Ytklfocciomngnaa
open Go.RowKit Go.Lib

set_option maxRecDepth 100000 in
set_option maxHeartbeats 400000 in
theorem letters_any (w : World) : Calls Try.prog 34 #[] w fun e w' => e = .returned (.agg #[.int .i32 97, .int .i32 122, .int .i32 224, .int .i32 246, .int .i32 248, .int .i32 254, .int .i32 945, .int .i32 961, .int .i32 963, .int .i32 969]) ∧ Below w.heap.size w w' := by
  go_enter Try.func34, Try.ntmps34
  go_wp2_with fail
  refine bodyPost_ret (v := .agg #[.int .i32 97, .int .i32 122, .int .i32 224, .int .i32 246, .int .i32 248, .int .i32 254, .int .i32 945, .int .i32 961, .int .i32 963, .int .i32 969]) (by simp [results, Try.results34, go_sem]) rfl ⟨rfl, (Below.refl _ _).alloc (Nat.le_refl _) _⟩
def rng : List (Int × Int) := [(97, 122), (224, 246), (248, 254), (945, 961), (963, 969)]
theorem small_hit {r : Int} {k : Nat} {p : Int × Int} (hp : rng[k]? = some p) (h1 : p.1 ≤ r) (h2 : r ≤ p.2) : smallB r = true := by
  rw [smallB_iff]
  have hk : k < 5 := (List.getElem?_eq_some_iff.1 hp).1
  rcases (show k = 0 ∨ k = 1 ∨ k = 2 ∨ k = 3 ∨ k = 4 by omega) with rfl | rfl | rfl | rfl | rfl <;> simp [rng] at hp <;> subst hp <;> simp at h1 h2 <;> omega
theorem rng_next {r : Int} {k : Nat} {p : Int × Int} (h : ∀ j p, j < k → rng[j]? = some p → ¬ (p.1 ≤ r ∧ r ≤ p.2)) (hp : rng[k]? = some p) (hn : ¬ (p.1 ≤ r ∧ r ≤ p.2)) : ∀ j p, j < k + 1 → rng[j]? = some p → ¬ (p.1 ≤ r ∧ r ≤ p.2) := fun j q hj hq => by
  by_cases e : j = k
  · subst e; rw [hp] at hq; cases hq; exact hn
  · exact h j q (by omega) hq
theorem small_miss {r : Int} (h : ∀ j p, j < 5 → rng[j]? = some p → ¬ (p.1 ≤ r ∧ r ≤ p.2)) : smallB r = false := by
  rw [Bool.eq_false_iff]
  intro hs
  have hs := (smallB_iff r).1 hs
  have h0 := h 0 _ (by omega) rfl
  have h1 := h 1 _ (by omega) rfl
  have h2 := h 2 _ (by omega) rfl
  have h3 := h 3 _ (by omega) rfl
  have h4 := h 4 _ (by omega) rfl
  simp only at h0 h1 h2 h3 h4
  omega
set_option maxRecDepth 100000 in
set_option maxHeartbeats 2000000 in
theorem small_any (r : Int) (w : World) : Calls Try.prog 25 #[.int .i32 r] w fun e w' => e = .returned (.bool (smallB r)) ∧ Below w.heap.size w w' := by
  have i0 : ∀ w, (Instr.index 49 (.agg #[.int .i32 97, .int .i32 122, .int .i32 224, .int .i32 246, .int .i32 248, .int .i32 254, .int .i32 945, .int .i32 961, .int .i32 963, .int .i32 969]) (.int .i64 0)).run Try.prog w = .ok (.agg #[.int .i32 97, .int .i32 122]) w := fun _ => by kernel_rfl
  have i1 : ∀ w, (Instr.index 49 (.agg #[.int .i32 97, .int .i32 122, .int .i32 224, .int .i32 246, .int .i32 248, .int .i32 254, .int .i32 945, .int .i32 961, .int .i32 963, .int .i32 969]) (.int .i64 1)).run Try.prog w = .ok (.agg #[.int .i32 224, .int .i32 246]) w := fun _ => by kernel_rfl
  have i2 : ∀ w, (Instr.index 49 (.agg #[.int .i32 97, .int .i32 122, .int .i32 224, .int .i32 246, .int .i32 248, .int .i32 254, .int .i32 945, .int .i32 961, .int .i32 963, .int .i32 969]) (.int .i64 2)).run Try.prog w = .ok (.agg #[.int .i32 248, .int .i32 254]) w := fun _ => by kernel_rfl
  have i3 : ∀ w, (Instr.index 49 (.agg #[.int .i32 97, .int .i32 122, .int .i32 224, .int .i32 246, .int .i32 248, .int .i32 254, .int .i32 945, .int .i32 961, .int .i32 963, .int .i32 969]) (.int .i64 3)).run Try.prog w = .ok (.agg #[.int .i32 945, .int .i32 961]) w := fun _ => by kernel_rfl
  have i4 : ∀ w, (Instr.index 49 (.agg #[.int .i32 97, .int .i32 122, .int .i32 224, .int .i32 246, .int .i32 248, .int .i32 254, .int .i32 945, .int .i32 961, .int .i32 963, .int .i32 969]) (.int .i64 4)).run Try.prog w = .ok (.agg #[.int .i32 963, .int .i32 969]) w := fun _ => by kernel_rfl
  go_enter Try.func25, Try.ntmps25
  go_wp2_with fail
  refine (letters_any w).mono ?_
  rintro e w1 ⟨rfl, hb⟩
  have BB := Lib.hid hb
  clear hb
  go_wp2_with fail
  go_loopw [6] (fun iv wr => ∃ k : Nat, k ≤ 5 ∧ iv = .int .i64 k ∧ (∀ j p, j < k → rng[j]? = some p → ¬ (p.1 ≤ r ∧ r ≤ p.2)) ∧ Below w.heap.size w wr) (fun iv _ => 5 - (intOf iv).toNat)
  case atStart => exact ⟨0, by omega, rfl, (fun j p h => by omega), BB.out⟩
  case round =>
    clear BB
    obtain ⟨k, hk, rfl, hno, hB⟩ := hrel
    have NO := Lib.hid hno
    have BB := Lib.hid hB
    have hsz := hB.size
    clear hno hB
    have hk5 : k = 0 ∨ k = 1 ∨ k = 2 ∨ k = 3 ∨ k = 4 ∨ k = 5 := by omega
    rcases hk5 with rfl | rfl | rfl | rfl | rfl | rfl
    · skip
      by_cases ha : 97 ≤ r
      · by_cases hb : r ≤ 122
        · have HS := Lib.hid (small_hit (k := 0) (p := (97, 122)) rfl ha hb)
          go_wp2_with fail
          go_ret
          exact ⟨retB HS.out.symm, BB.out.alloc hsz _⟩
        · have HM := Lib.hid (rng_next (k := 0) (p := (97, 122)) NO.out rfl (fun h => hb h.2))
          go_wp2_with fail
          go_roundw
          case rel => exact ⟨0 + 1, by omega, by go_num, HM.out, BB.out.alloc hsz _⟩
          case measure => simp [intOf]
      · have HM := Lib.hid (rng_next (k := 0) (p := (97, 122)) NO.out rfl (fun h => ha h.1))
        go_wp2_with fail
        go_roundw
        case rel => exact ⟨0 + 1, by omega, by go_num, HM.out, BB.out.alloc hsz _⟩
        case measure => simp [intOf]
    · skip
      by_cases ha : 224 ≤ r
      · by_cases hb : r ≤ 246
        · have HS := Lib.hid (small_hit (k := 1) (p := (224, 246)) rfl ha hb)
          go_wp2_with fail
          go_ret
          exact ⟨retB HS.out.symm, BB.out.alloc hsz _⟩
        · have HM := Lib.hid (rng_next (k := 1) (p := (224, 246)) NO.out rfl (fun h => hb h.2))
          go_wp2_with fail
          go_roundw
          case rel => exact ⟨1 + 1, by omega, by go_num, HM.out, BB.out.alloc hsz _⟩
          case measure => simp [intOf]
      · have HM := Lib.hid (rng_next (k := 1) (p := (224, 246)) NO.out rfl (fun h => ha h.1))
        go_wp2_with fail
        go_roundw
        case rel => exact ⟨1 + 1, by omega, by go_num, HM.out, BB.out.alloc hsz _⟩
        case measure => simp [intOf]
    · skip
      by_cases ha : 248 ≤ r
      · by_cases hb : r ≤ 254
        · have HS := Lib.hid (small_hit (k := 2) (p := (248, 254)) rfl ha hb)
          go_wp2_with fail
          go_ret
          exact ⟨retB HS.out.symm, BB.out.alloc hsz _⟩
        · have HM := Lib.hid (rng_next (k := 2) (p := (248, 254)) NO.out rfl (fun h => hb h.2))
          go_wp2_with fail
          go_roundw
          case rel => exact ⟨2 + 1, by omega, by go_num, HM.out, BB.out.alloc hsz _⟩
          case measure => simp [intOf]
      · have HM := Lib.hid (rng_next (k := 2) (p := (248, 254)) NO.out rfl (fun h => ha h.1))
        go_wp2_with fail
        go_roundw
        case rel => exact ⟨2 + 1, by omega, by go_num, HM.out, BB.out.alloc hsz _⟩
        case measure => simp [intOf]
    · skip
      by_cases ha : 945 ≤ r
      · by_cases hb : r ≤ 961
        · have HS := Lib.hid (small_hit (k := 3) (p := (945, 961)) rfl ha hb)
          go_wp2_with fail
          go_ret
          exact ⟨retB HS.out.symm, BB.out.alloc hsz _⟩
        · have HM := Lib.hid (rng_next (k := 3) (p := (945, 961)) NO.out rfl (fun h => hb h.2))
          go_wp2_with fail
          go_roundw
          case rel => exact ⟨3 + 1, by omega, by go_num, HM.out, BB.out.alloc hsz _⟩
          case measure => simp [intOf]
      · have HM := Lib.hid (rng_next (k := 3) (p := (945, 961)) NO.out rfl (fun h => ha h.1))
        go_wp2_with fail
        go_roundw
        case rel => exact ⟨3 + 1, by omega, by go_num, HM.out, BB.out.alloc hsz _⟩
        case measure => simp [intOf]
    · skip
      by_cases ha : 963 ≤ r
      · by_cases hb : r ≤ 969
        · have HS := Lib.hid (small_hit (k := 4) (p := (963, 969)) rfl ha hb)
          go_wp2_with fail
          go_ret
          exact ⟨retB HS.out.symm, BB.out.alloc hsz _⟩
        · have HM := Lib.hid (rng_next (k := 4) (p := (963, 969)) NO.out rfl (fun h => hb h.2))
          go_wp2_with fail
          go_roundw
          case rel => exact ⟨4 + 1, by omega, by go_num, HM.out, BB.out.alloc hsz _⟩
          case measure => simp [intOf]
      · have HM := Lib.hid (rng_next (k := 4) (p := (963, 969)) NO.out rfl (fun h => ha h.1))
        go_wp2_with fail
        go_roundw
        case rel => exact ⟨4 + 1, by omega, by go_num, HM.out, BB.out.alloc hsz _⟩
        case measure => simp [intOf]
    · have HS := Lib.hid (small_miss NO.out)
      go_wp2_with fail
      go_ret
      exact ⟨retB HS.out.symm, BB.out⟩
end Go.Proofs.Ytklfocciomngnaa
