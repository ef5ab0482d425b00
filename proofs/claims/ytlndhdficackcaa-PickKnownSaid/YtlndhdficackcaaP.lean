/- PickRound: the plain law. -/
import Derived.Test.YtlndhdficackcaaH
namespace Go.Proofs.Ytlndhdficackcaa
open Go.RowKit Go.Shelf

theorem tr_all (n : Nat) : tr (List.replicate n true) = List.range n := by
  induction n with
  | zero => rfl
  | succ n ih => rw [List.replicate_succ', tr_hit, ih, List.length_replicate, List.range_succ]
/-- who comes behind 'last', where all n run -/
def nx (n : Nat) (last : Int) : Nat := if last < -1 then 0 else if last < (n : Int) - 1 then (last + 1).toNat else 0
theorem nx_lt {n : Nat} (h : 0 < n) (last : Int) : nx n last < n := by unfold nx; split <;> (try split) <;> omega
theorem nextA_all {n : Nat} (h : 0 < n) (last : Int) : nextA (List.replicate n true) last = nx n last := by
  unfold nextA
  rw [tr_all]
  by_cases hl : last < (n : Int) - 1
  · have : (List.range n).find? (fun c : Nat => decide (last < (c : Int))) = some (nx n last) := by
      have hlt := nx_lt h last
      refine find_sorted _ _ ?_ _ List.pairwise_lt_range (by simpa using hlt) ?_
      · unfold nx; simp only [decide_eq_true_eq]; split <;> (try split) <;> omega
      · intro c' _ hp
        have hp := of_decide_eq_true hp
        unfold nx; split <;> (try split) <;> omega
    rw [this]
  · have : (List.range n).find? (fun c : Nat => decide (last < (c : Int))) = none := by
      rw [List.find?_eq_none]
      intro x hx
      have := List.mem_range.1 hx
      simp; omega
    rw [this]
    have h2 : nx n last = 0 := by unfold nx; rw [if_neg (by omega), if_neg hl]
    rw [h2]
    cases n with
    | zero => omega
    | succ n => simp [List.range_succ_eq_map]
theorem pickB_all {n : Nat} (h : 0 < n) : pickB (List.replicate n true) = true := by
  unfold pickB; rw [tr_all]; simp; omega
theorem nx_mod {n s k : Nat} (h : 0 < n) : nx n ((s + k) % n : Nat) = (s + (k + 1)) % n := by
  have hlt := Nat.mod_lt (s + k) h
  have e : (s + (k + 1)) % n = ((s + k) % n + 1) % n := by rw [← Nat.add_assoc, ← Nat.mod_add_mod]
  rw [e]
  unfold nx
  rw [if_neg (by omega)]
  split
  · rw [Nat.mod_eq_of_lt (a := (s + k) % n + 1) (by omega)]; omega
  · have : (s + k) % n + 1 = n := by omega
    rw [this, Nat.mod_self]

/-- who is told, from s on, m times -/
def cyc (n s m : Nat) : List Int := (List.range m).map fun k => (((s + k) % n : Nat) : Int)
theorem cyc_len (n s m : Nat) : (cyc n s m).length = m := by simp [cyc]
theorem cyc_succ (n s m : Nat) : cyc n s (m + 1) = cyc n s m ++ [(((s + m) % n : Nat) : Int)] := by simp [cyc, List.range_succ]

theorem e_eq {n s c : Nat} (hs : s < n) (hc : c < n) : s ≤ c ∧ (c + n - s) % n = c - s ∨ c < s ∧ (c + n - s) % n = c + n - s := by
  rcases Nat.lt_or_ge c s with h | h
  · exact .inr ⟨h, Nat.mod_eq_of_lt (by omega)⟩
  · refine .inl ⟨h, ?_⟩
    rw [show c + n - s = (c - s) + n by omega, Nat.add_mod_right, Nat.mod_eq_of_lt (by omega)]
theorem hit_iff {n s c m : Nat} (hs : s < n) (hc : c < n) (hm : m ≤ (c + n - s) % n) : (s + m) % n = c ↔ m = (c + n - s) % n := by
  rcases e_eq hs hc with ⟨h, he⟩ | ⟨h, he⟩ <;> rw [he] at hm ⊢
  · rw [Nat.mod_eq_of_lt (by omega)]; omega
  · rcases Nat.lt_or_ge (s + m) n with h' | h'
    · rw [Nat.mod_eq_of_lt h']; omega
    · rw [show s + m = (s + m - n) + n by omega, Nat.add_mod_right, Nat.mod_eq_of_lt (by omega)]; omega
theorem gst_cyc {n : Nat} (hn : 1 ≤ n ∧ n ≤ 8) {s c : Nat} (hs : s < n) (hc : c < n) (m : Nat) :
    (gst (cyc n s m) c).2 = (if m ≤ (c + n - s) % n then m else (m - 1 - (c + n - s) % n) % n) ∧ (gst (cyc n s m) c).1 ≤ n - 1 ∧ (n - 1 ≤ m → (c + n - s) % n = n - 1 → n - 1 ≤ (gst (cyc n s m) c).1) := by
  induction m with
  | zero =>
    refine ⟨by simp [cyc, gst], by simp [cyc, gst], fun h _ => ?_⟩
    simp [cyc, gst]; omega
  | succ m ih =>
    rw [cyc_succ, gst_snoc]
    obtain ⟨h2, h1, h3⟩ := ih
    have hcast : ((((s + m) % n : Nat) : Int) = (c : Int)) ↔ (s + m) % n = c := by omega
    unfold gstep
    simp only [hcast]
    rw [h2]
    generalize (gst (cyc n s m) c).1 = g at *
    clear h2
    obtain ⟨e, he⟩ : ∃ e, e = (c + n - s) % n := ⟨_, rfl⟩
    have he' := e_eq hs hc
    have hit := hit_iff (m := m) hs hc
    rw [← he] at h3 ⊢ he' hit
    clear he
    clear hcast
    have hcs : n = 1 ∨ n = 2 ∨ n = 3 ∨ n = 4 ∨ n = 5 ∨ n = 6 ∨ n = 7 ∨ n = 8 := by omega
    by_cases ha : m ≤ e
    · have hit := hit ha
      by_cases hb : m + 1 ≤ e
      · have hh : ¬ (s + m) % n = c := by omega
        simp only [hh, ha, hb, if_true, if_false]
        refine ⟨trivial, by omega, fun h4 h5 => by omega⟩
      · have hh : (s + m) % n = c := by omega
        simp only [hh, ha, hb, if_true, if_false]
        refine ⟨?_, by omega, fun h4 h5 => by omega⟩
        rw [show m + 1 - 1 - e = 0 by omega, Nat.zero_mod]
    · clear hit
      have hb : ¬ m + 1 ≤ e := by omega
      by_cases hh : (s + m) % n = c <;> simp only [hh, ha, hb, if_true, if_false] <;> rcases he' with ⟨ho, he'⟩ | ⟨ho, he'⟩ <;> rcases hcs with rfl | rfl | rfl | rfl | rfl | rfl | rfl | rfl <;> refine ⟨by omega, by omega, fun h4 h5 => by omega⟩
theorem cyc_fair {n : Nat} (hn : 1 ≤ n ∧ n ≤ 8) {s : Nat} (hs : s < n) (m : Nat) : fairB (cyc n s m) n n = true := by
  by_cases hm : ((cyc n s m).length : Int) < n
  · exact fair_short (by omega) hm
  · refine fair_yes (by omega) (by omega) fun c hc => ?_
    have := (gst_cyc hn hs hc m).2.1
    unfold gap; omega
theorem cyc_unfair {n : Nat} (hn : 2 ≤ n ∧ n ≤ 8) {s : Nat} (hs : s < n) {m : Nat} (hm : n ≤ m) : fairB (cyc n s m) n ((n : Int) - 1) = false := by
  have hlt : (s + (n - 1)) % n < n := Nat.mod_lt _ (by omega)
  refine fair_no (c := (s + (n - 1)) % n) (by omega) (by rw [cyc_len]; omega) hlt ?_
  have := (gst_cyc (show 1 ≤ n ∧ n ≤ 8 by omega) hs hlt m).2.2 (by omega) (by
    have hq : (s + (n - 1)) % n = if s = 0 then n - 1 else s - 1 := by
      split
      · subst_vars; rw [Nat.zero_add, Nat.mod_eq_of_lt (by omega)]
      · rw [show s + (n - 1) = (s - 1) + n by omega, Nat.add_mod_right, Nat.mod_eq_of_lt (by omega)]
    rcases Nat.eq_zero_or_pos s with h0 | h0
    · rw [if_pos h0] at hq; rw [hq]
      rcases e_eq (c := n - 1) hs (by omega) with ⟨h, he⟩ | ⟨h, he⟩ <;> omega
    · rw [if_neg (by omega)] at hq; rw [hq]
      rcases e_eq (c := s - 1) hs (by omega) with ⟨h, he⟩ | ⟨h, he⟩ <;> omega)
  unfold gap; omega
end Go.Proofs.Ytlndhdficackcaa
