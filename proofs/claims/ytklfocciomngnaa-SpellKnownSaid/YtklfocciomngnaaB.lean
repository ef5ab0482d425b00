/- Names, folds, orders and cuts, in plain words. -/
import Derived.Test.YtklfocciomngnaaA
namespace Go.Proofs.Ytklfocciomngnaa
open Go.RowKit Go.Lib

def smallB (r : Int) : Bool := (97 ≤ r && r ≤ 122) || (224 ≤ r && r ≤ 246) || (248 ≤ r && r ≤ 254) || (945 ≤ r && r ≤ 961) || (963 ≤ r && r ≤ 969)
def foldR (r : Int) : Int := if smallB (r + 32) = true then r + 32 else r
def letB (r : Int) : Bool := smallB (foldR r)
def othB (r : Int) : Bool := (48 ≤ r && r ≤ 57) || r == 45 || r == 95
def okAt (i : Nat) (r : Int) : Bool := letB r || (othB r && decide (i ≠ 0))
def okF : Nat → List Int → Bool
  | _, [] => true
  | n, r :: rs => okAt n r && okF (n + 1) rs
/-- Check's answer -/
def chkE (rs : List Int) : Int := if (okF 0 rs && decide (1 ≤ rs.length) && decide (rs.length ≤ 16)) = true then 0 else 10
theorem okF_append : ∀ (a b : List Int) (n : Nat), okF n (a ++ b) = (okF n a && okF (n + a.length) b)
  | [], b, n => by simp [okF]
  | x :: a, b, n => by
    rw [List.cons_append, okF, okF, okF_append a b (n + 1), List.length_cons, Bool.and_assoc]
    rw [show n + 1 + a.length = n + (a.length + 1) by omega]
theorem smallB_iff (r : Int) : smallB r = true ↔ (97 ≤ r ∧ r ≤ 122) ∨ (224 ≤ r ∧ r ≤ 246) ∨ (248 ≤ r ∧ r ≤ 254) ∨ (945 ≤ r ∧ r ≤ 961) ∨ (963 ≤ r ∧ r ≤ 969) := by
  simp [smallB, or_assoc]
theorem foldR_vr {r : Int} (h : VR r) : VR (foldR r) := by
  unfold foldR
  split
  · rename_i hs
    rw [smallB_iff] at hs
    unfold VR at *
    omega
  · exact h
theorem foldR_foldR (r : Int) : foldR (foldR r) = foldR r := by
  by_cases h : smallB (r + 32) = true
  · have h2 : ¬ smallB (r + 32 + 32) = true := by rw [smallB_iff] at *; omega
    have e : foldR r = r + 32 := by unfold foldR; rw [if_pos h]
    rw [e]; unfold foldR; rw [if_neg h2]
  · have e : foldR r = r := by unfold foldR; rw [if_neg h]
    rw [e, e]
theorem othB_iff (r : Int) : othB r = true ↔ (48 ≤ r ∧ r ≤ 57) ∨ r = 45 ∨ r = 95 := by simp [othB, or_assoc]
theorem othB_fold (r : Int) : othB (foldR r) = othB r := by
  by_cases h : smallB (r + 32) = true
  · have e : foldR r = r + 32 := by unfold foldR; rw [if_pos h]
    rw [e, Bool.eq_iff_iff, othB_iff, othB_iff]
    rw [smallB_iff] at h
    omega
  · have e : foldR r = r := by unfold foldR; rw [if_neg h]
    rw [e]
theorem letB_fold (r : Int) : letB (foldR r) = letB r := by unfold letB; rw [foldR_foldR]
theorem okAt_fold (i : Nat) (r : Int) : okAt i (foldR r) = okAt i r := by unfold okAt; rw [letB_fold, othB_fold]
theorem okF_map {f : Int → Int} (hf : ∀ i r, okAt i (f r) = okAt i r) : ∀ (rs : List Int) (n : Nat), okF n (rs.map f) = okF n rs
  | [], _ => rfl
  | r :: rs, n => by rw [List.map_cons, okF, okF, hf, okF_map hf rs]
theorem chkE_map {f : Int → Int} (hf : ∀ i r, okAt i (f r) = okAt i r) (rs : List Int) : chkE (rs.map f) = chkE rs := by
  unfold chkE; rw [okF_map hf, List.length_map]
/-- great: some small letters are great -/
def greatR (r : Int) : Int := if (97 ≤ r ∧ r ≤ 122) ∨ (224 ≤ r ∧ r ≤ 246) ∨ (945 ≤ r ∧ r ≤ 961) then r - 32 else r
theorem greatR_vr {r : Int} (h : VR r) : VR (greatR r) := by
  unfold greatR VR at *
  split <;> omega
theorem fold_great (r : Int) : foldR (greatR r) = foldR r := by
  unfold greatR
  split
  · rename_i h
    have h1 : smallB (r - 32 + 32) = true := by rw [smallB_iff]; omega
    have h2 : ¬ smallB (r + 32) = true := by rw [smallB_iff]; omega
    unfold foldR; rw [if_pos h1, if_neg h2]; omega
  · rfl
theorem oth_great (r : Int) : othB (greatR r) = othB r := by
  unfold greatR
  split
  · rw [Bool.eq_iff_iff, othB_iff, othB_iff]; omega
  · rfl
theorem okAt_great (i : Nat) (r : Int) : okAt i (greatR r) = okAt i r := by unfold okAt letB; rw [fold_great, oth_great]
/-- the reference's Check -/
theorem okF_succ : ∀ (rs : List Int) (n : Nat), okF (n + 1) rs = rs.all fun r => letB r || othB r
  | [], _ => rfl
  | r :: rs, n => by rw [okF, List.all_cons, okF_succ rs (n + 1)]; simp [okAt]
theorem chk_bad_len {rs : List Int} (h : rs.length < 1 ∨ 16 < rs.length) : chkE rs = 10 := by
  unfold chkE
  rw [if_neg]
  simp
  omega
theorem chk_bad_head {r : Int} {rs : List Int} (h : letB r = false) : chkE (r :: rs) = 10 := by
  unfold chkE
  rw [if_neg]
  simp [okF, okAt, h]
theorem chk_bad_at {rs : List Int} {r : Int} (hr : r ∈ rs) (h1 : letB r = false) (h2 : othB r = false) : chkE rs = 10 := by
  unfold chkE
  rw [if_neg]
  intro h
  simp only [Bool.and_eq_true] at h
  cases rs with
  | nil => cases hr
  | cons x xs =>
    have h3 := h.1.1
    rw [okF] at h3
    simp only [Bool.and_eq_true, okF_succ, List.all_eq_true] at h3
    rcases List.mem_cons.1 hr with rfl | hr
    · have := h3.1; simp [okAt, h1] at this
    · have := h3.2 r hr; rw [h1, h2] at this; cases this
theorem chk_good {r : Int} {rs : List Int} (h0 : letB r = true) (h : ∀ x ∈ r :: rs, letB x = true ∨ othB x = true) (hl : (r :: rs).length ≤ 16) : chkE (r :: rs) = 0 := by
  unfold chkE
  rw [if_pos]
  simp only [Bool.and_eq_true, okF, okF_succ, List.all_eq_true, decide_eq_true_eq]
  refine ⟨⟨⟨by simp [okAt, h0], fun x hx => ?_⟩, by simp⟩, hl⟩
  rcases h x (List.mem_cons_of_mem _ hx) with h | h <;> simp [h]
/-- which of two comes ahead -/
def lessR : List Int → List Int → Bool
  | [], [] => false
  | [], _ :: _ => true
  | _ :: _, [] => false
  | x :: xs, y :: ys => if x = y then lessR xs ys else decide (x < y)
theorem lessR_irr : ∀ xs : List Int, lessR xs xs = false
  | [] => rfl
  | x :: xs => by rw [lessR, if_pos rfl, lessR_irr xs]
theorem lessR_tri : ∀ (xs ys : List Int), (lessR xs ys = true ∧ lessR ys xs = false ∧ xs ≠ ys) ∨ (lessR xs ys = false ∧ lessR ys xs = true ∧ xs ≠ ys) ∨ (lessR xs ys = false ∧ lessR ys xs = false ∧ xs = ys)
  | [], [] => by simp [lessR]
  | [], _ :: _ => by simp [lessR]
  | _ :: _, [] => by simp [lessR]
  | x :: xs, y :: ys => by
    by_cases e : x = y
    · subst e
      simp only [lessR, if_pos]
      have := lessR_tri xs ys
      simpa using this
    · simp only [lessR, if_neg e, if_neg (Ne.symm e)]
      by_cases h : x < y
      · exact .inl ⟨by simpa using h, by simp; omega, fun h' => e (List.cons.inj h').1⟩
      · exact .inr (.inl ⟨by simp; omega, by simp; omega, fun h' => e (List.cons.inj h').1⟩)
theorem lessR_trans : ∀ (xs ys zs : List Int), lessR xs ys = true → lessR ys zs = true → lessR xs zs = true
  | [], [], _, h, _ => by simp [lessR] at h
  | [], _ :: _, [], _, h => by simp [lessR] at h
  | [], _ :: _, _ :: _, _, _ => by simp [lessR]
  | _ :: _, [], _, h, _ => by simp [lessR] at h
  | _ :: _, _ :: _, [], _, h => by simp [lessR] at h
  | x :: xs, y :: ys, z :: zs, h1, h2 => by
    simp only [lessR] at *
    by_cases e1 : x = y
    · subst e1
      rw [if_pos rfl] at h1
      by_cases e2 : x = z
      · subst e2
        rw [if_pos rfl] at h2 ⊢
        exact lessR_trans xs ys zs h1 h2
      · rw [if_neg e2] at h2 ⊢; exact h2
    · rw [if_neg e1] at h1
      by_cases e2 : y = z
      · subst e2
        rw [if_neg e1]; exact h1
      · rw [if_neg e2] at h2
        simp at h1 h2
        rw [if_neg (by omega)]
        simp; omega
/-- a text and runes behind it -/
theorem decode_app {l t : List UInt8} (hl : l ≠ []) (ht : t = [] ∨ (t.getD 0 0).toNat / 64 ≠ 2) : decodeL (l ++ t) = decodeL l := by
  rcases ht with rfl | ht
  · rw [List.append_nil]
  · have ht' : ¬ (t[0]?.getD 0).toNat / 64 = 2 := by simpa using ht
    rw [decodeL_N, decodeL_N]
    match l, hl with
    | [a], _ =>
      simp only [List.cons_append, List.nil_append, List.getD_cons_zero, List.getD_cons_succ, List.length_cons, List.length_nil, List.getD_nil]
      simp [decodeN, ht']
    | [a, b], _ =>
      simp only [List.cons_append, List.nil_append, List.getD_cons_zero, List.getD_cons_succ, List.length_cons, List.length_nil, List.getD_nil]
      simp [decodeN, ht']
    | [a, b, c], _ =>
      simp only [List.cons_append, List.nil_append, List.getD_cons_zero, List.getD_cons_succ, List.length_cons, List.length_nil, List.getD_nil]
      simp [decodeN, ht']
    | a :: b :: c :: d :: r, _ =>
      simp only [List.cons_append, List.getD_cons_zero, List.getD_cons_succ, List.length_cons]
      simp [decodeN]
theorem enc_head (r : Int) : ((encodeRune r).getD 0 0).toNat / 64 ≠ 2 := by
  unfold encodeRune encodeRuneZ
  split
  · rename_i h
    simp only [List.map_cons, List.getD_cons_zero]
    have := toU8 (z := r) (by omega) (by omega)
    omega
  · split
    · rename_i h
      simp only [List.map_cons, List.getD_cons_zero]
      have := toU8 (z := 192 + r / 64) (by omega) (by omega)
      omega
    · split
      · rename_i h
        simp only [List.map_cons, List.getD_cons_zero]
        have := toU8 (z := 224 + r / 4096) (by omega) (by omega)
        omega
      · split
        · rename_i h
          simp only [List.map_cons, List.getD_cons_zero]
          have := toU8 (z := 240 + r / 262144) (by omega) (by omega)
          omega
        · decide
theorem encL_head (cs : List Int) : encL cs = [] ∨ ((encL cs).getD 0 0).toNat / 64 ≠ 2 := by
  cases cs with
  | nil => exact .inl rfl
  | cons r cs =>
    right
    rw [encL_cons]
    have hl := encodeRune_len r
    have h := enc_head r
    cases he : encodeRune r with
    | nil => rw [he] at hl; simp at hl
    | cons x xs => rw [he] at h; simpa using h
theorem runes_app {cs : List Int} (hc : ∀ r ∈ cs, VR r) (l : List UInt8) : runesL (l ++ encL cs) = runesL l ++ cs := by
  refine runesL_ind (P := fun l => runesL (l ++ encL cs) = runesL l ++ cs) (by rw [List.nil_append, runesL_enc hc]; rfl) (fun l hl h => ?_) l
  have hd := decode_app hl (encL_head cs)
  have hle := decodeL_le l hl
  rw [runesL_step (by simp [hl]), hd, List.drop_append_of_le_length hle, h, runesL_step hl, List.cons_append]
end Go.Proofs.Ytklfocciomngnaa
