/- Texts and runes, in plain words. -/
import Derived.Test.YtklfocciomngnaaK
import Derived.Lib.MapLaws
import Derived.Lib.RuneBytes
namespace Go.Proofs.Ytklfocciomngnaa
open Go.RowKit Go.Lib

/-- a rune that may be -/
def VR (r : Int) : Prop := 0 ≤ r ∧ (r < 55296 ∨ 57344 ≤ r) ∧ r ≤ 1114111
/-- the runes of a text -/
def runesF : Nat → List UInt8 → List Int
  | 0, _ => []
  | f + 1, l => if l = [] then [] else ((decodeL l).1 : Int) :: runesF f (l.drop (decodeL l).2)
def runesL (l : List UInt8) : List Int := runesF l.length l
theorem runesF_nil (f : Nat) : runesF f [] = [] := by cases f <;> simp [runesF]
theorem runesF_fuel : ∀ (f g : Nat) (l : List UInt8), l.length ≤ f → l.length ≤ g → runesF f l = runesF g l := by
  intro f
  induction f with
  | zero => intro g l h1 h2; rw [List.eq_nil_of_length_eq_zero (show l.length = 0 by omega), runesF_nil, runesF_nil]
  | succ f ih =>
    intro g l h1 h2
    by_cases hl : l = []
    · rw [hl, runesF_nil, runesF_nil]
    · have hp : 0 < l.length := List.length_pos_iff.2 hl
      obtain ⟨g', rfl⟩ : ∃ g', g = g' + 1 := ⟨g - 1, by omega⟩
      have hw := decodeL_width l
      simp only [runesF, if_neg hl]
      rw [ih g' (l.drop (decodeL l).2) (by simp; omega) (by simp; omega)]
theorem runesL_nil : runesL [] = [] := rfl
theorem runesL_step {l : List UInt8} (hl : l ≠ []) : runesL l = ((decodeL l).1 : Int) :: runesL (l.drop (decodeL l).2) := by
  have hp : 0 < l.length := List.length_pos_iff.2 hl
  have hw := decodeL_width l
  unfold runesL
  obtain ⟨n, hn⟩ : ∃ n, l.length = n + 1 := ⟨l.length - 1, by omega⟩
  conv => lhs; rw [hn]; simp only [runesF, if_neg hl]
  rw [runesF_fuel n (l.drop (decodeL l).2).length _ (by simp; omega) (Nat.le_refl _)]
theorem runesL_ind {P : List UInt8 → Prop} (h0 : P []) (hs : ∀ l, l ≠ [] → P (l.drop (decodeL l).2) → P l) : ∀ l, P l := by
  have : ∀ n (l : List UInt8), l.length ≤ n → P l := by
    intro n
    induction n with
    | zero => intro l h; rw [List.eq_nil_of_length_eq_zero (show l.length = 0 by omega)]; exact h0
    | succ n ih =>
      intro l h
      by_cases hl : l = []
      · rw [hl]; exact h0
      · have hp : 0 < l.length := List.length_pos_iff.2 hl
        have hw := decodeL_width l
        exact hs l hl (ih _ (by simp; omega))
  exact fun l => this l.length l (Nat.le_refl _)
theorem runesL_len (l : List UInt8) : (runesL l).length ≤ l.length := by
  refine runesL_ind (P := fun l => (runesL l).length ≤ l.length) (by simp [runesL_nil]) (fun l hl h => ?_) l
  have hp : 0 < l.length := List.length_pos_iff.2 hl
  have hw := decodeL_width l
  have hle := decodeL_le l hl
  rw [runesL_step hl, List.length_cons]
  simp at h
  omega
theorem decode_vr (l : List UInt8) : VR ((decodeL l).1 : Int) := by
  rw [decodeL_N]
  have k0 := (l.getD 0 0).toNat_lt
  rcases decodeN_shape l.length (l.getD 0 0).toNat (l.getD 1 0).toNat (l.getD 2 0).toNat (l.getD 3 0).toNat with ⟨c, e⟩ | ⟨c1, c2, c3, cv, e⟩ | ⟨c1, c2, c3, c4, cv, cs, e⟩ | ⟨c1, c2, c3, c4, c5, cv, cw, e⟩ | e <;> rw [e] <;> unfold VR <;> simp only <;> omega
theorem runesL_vr (l : List UInt8) : ∀ r ∈ runesL l, VR r := by
  refine runesL_ind (P := fun l => ∀ r ∈ runesL l, VR r) (by simp [runesL_nil]) (fun l hl h r hr => ?_) l
  rw [runesL_step hl] at hr
  rcases List.mem_cons.1 hr with rfl | hr
  · exact decode_vr l
  · exact h r hr
/-- what runes are, as bytes -/
def encL (rs : List Int) : List UInt8 := rs.flatMap encodeRune
theorem encL_cons (r : Int) (rs : List Int) : encL (r :: rs) = encodeRune r ++ encL rs := rfl
theorem encL_append (a b : List Int) : encL (a ++ b) = encL a ++ encL b := by simp [encL]
theorem encodeRune_len (r : Int) : 1 ≤ (encodeRune r).length ∧ (encodeRune r).length ≤ 4 := by
  have := encodeRuneZ_length r
  simpa [encodeRune] using this
theorem encL_len (rs : List Int) : (encL rs).length ≤ 4 * rs.length := by
  induction rs with
  | nil => simp [encL]
  | cons r rs ih => rw [encL_cons, List.length_append, List.length_cons]; have := encodeRune_len r; omega
theorem toU8 {z : Int} (h0 : 0 ≤ z) (h1 : z < 256) : (z.toNat.toUInt8.toNat : Int) = z := by
  have : z.toNat < 256 := by omega
  simp [Nat.toUInt8]
  omega
/-- a rune that is laid is read again -/
theorem decode_enc {r : Int} (h : VR r) (t : List UInt8) : decodeL (encodeRune r ++ t) = (r.toNat, (encodeRune r).length) := by
  obtain ⟨h0, h1, h2⟩ := h
  have hdef : ∀ zs, encodeRuneZ r = zs → encodeRune r = zs.map fun x => x.toNat.toUInt8 := fun zs e => by unfold encodeRune; rw [e]
  by_cases a : r ≤ 127
  · rw [hdef _ (encodeRuneZ_one h0 a)]
    rw [decodeL_N]
    have e0 := toU8 (z := r) h0 (by omega)
    simp only [List.map_cons, List.map_nil, List.cons_append, List.nil_append, List.getD_cons_zero, List.length_cons, List.length_nil]
    unfold decodeN
    rw [if_pos (by omega)]
    congr 1
    omega
  · by_cases b : r ≤ 2047
    · rw [hdef _ (encodeRuneZ_two (by omega) b)]
      rw [decodeL_N]
      have e0 := toU8 (z := 192 + r / 64) (by omega) (by omega)
      have e1 := toU8 (z := 128 + r % 64) (by omega) (by omega)
      simp only [List.map_cons, List.map_nil, List.cons_append, List.nil_append, List.getD_cons_zero, List.getD_cons_succ, List.length_cons, List.length_nil]
      unfold decodeN
      rw [if_neg (by omega), if_pos (by refine ⟨by omega, by omega, by omega⟩), if_pos (by omega)]
      congr 1
      omega
    · by_cases c : r ≤ 65535
      · rw [hdef _ (encodeRuneZ_three (by omega))]
        rw [decodeL_N]
        have e0 := toU8 (z := 224 + r / 4096) (by omega) (by omega)
        have e1 := toU8 (z := 128 + r / 64 % 64) (by omega) (by omega)
        have e2 := toU8 (z := 128 + r % 64) (by omega) (by omega)
        simp only [List.map_cons, List.map_nil, List.cons_append, List.nil_append, List.getD_cons_zero, List.getD_cons_succ, List.length_cons, List.length_nil]
        unfold decodeN
        rw [if_neg (by omega), if_neg (by omega), if_pos (by refine ⟨by omega, ⟨by omega, by omega⟩, by omega, by omega⟩), if_pos (by refine ⟨by omega, by omega⟩)]
        congr 1
        omega
      · rw [hdef _ (encodeRuneZ_four (by omega) h2)]
        rw [decodeL_N]
        have e0 := toU8 (z := 240 + r / 262144) (by omega) (by omega)
        have e1 := toU8 (z := 128 + r / 4096 % 64) (by omega) (by omega)
        have e2 := toU8 (z := 128 + r / 64 % 64) (by omega) (by omega)
        have e3 := toU8 (z := 128 + r % 64) (by omega) (by omega)
        simp only [List.map_cons, List.map_nil, List.cons_append, List.nil_append, List.getD_cons_zero, List.getD_cons_succ, List.length_cons, List.length_nil]
        unfold decodeN
        rw [if_neg (by omega), if_neg (by omega), if_neg (by omega), if_pos (by refine ⟨by omega, ⟨by omega, by omega⟩, ⟨by omega, by omega⟩, by omega, by omega⟩), if_pos (by refine ⟨by omega, by omega⟩)]
        congr 1
        omega
theorem runesL_enc {rs : List Int} (h : ∀ r ∈ rs, VR r) : runesL (encL rs) = rs := by
  induction rs with
  | nil => rfl
  | cons r rs ih =>
    have hr := h r List.mem_cons_self
    have hd := decode_enc hr (encL rs)
    have hl := encodeRune_len r
    rw [encL_cons, runesL_step (by intro e; have := congrArg List.length e; simp at this; rw [this.1] at hl; simp at hl), hd]
    simp only [List.drop_left]
    rw [ih fun x hx => h x (List.mem_cons_of_mem _ hx)]
    congr 1
    have := hr.1
    omega
theorem encL_inj {a b : List Int} (ha : ∀ r ∈ a, VR r) (hb : ∀ r ∈ b, VR r) (h : encL a = encL b) : a = b := by
  rw [← runesL_enc ha, h, runesL_enc hb]
end Go.Proofs.Ytklfocciomngnaa
