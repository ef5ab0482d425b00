/- The reference's answers; great. -/
import Derived.Test.YtklfocciomngnaaG
import Derived.Laws.OwnMore
import Derived.Deep.AppendLies
import Derived.Deep.OwnRows
import Derived.WalkLawsBesides
namespace Go.Proofs.Ytklfocciomngnaa
open Go.RowKit Go.Lib

/-- runes as bytes, as the conversion makes them -/
theorem enc_utf8 {r : Int} (h : VR r) : (Utf8.encode r).data.toList = encodeRune r := by
  obtain ⟨h0, h1, h2⟩ := h
  have hv : Utf8.valid r = true := by simp [Utf8.valid]; omega
  obtain ⟨n, rfl⟩ := Int.eq_ofNat_of_zero_le h0
  have e8 : ∀ (z : Int) (m : Nat), z = m → z.toNat.toUInt8 = UInt8.ofNat m := fun z m e => by subst e; simp [Nat.toUInt8]
  unfold encodeRune
  by_cases a : n < 128
  · rw [encodeRuneZ_one (by omega) (by omega)]
    simp only [Utf8.encode, hv, if_true, Int.toNat_natCast, if_pos a, List.map_cons, List.map_nil]
    try rw [e8 _ _ rfl]
  · by_cases b : n < 2048
    · rw [encodeRuneZ_two (by omega) (by omega)]
      simp only [Utf8.encode, hv, if_true, Int.toNat_natCast, if_neg a, if_pos b, List.map_cons, List.map_nil]
      rw [e8 _ (0xC0 + n / 64) (by omega), e8 _ (0x80 + n % 64) (by omega)]
    · by_cases c : n < 65536
      · rw [encodeRuneZ_three (by omega)]
        simp only [Utf8.encode, hv, if_true, Int.toNat_natCast, if_neg a, if_neg b, if_pos c, List.map_cons, List.map_nil]
        rw [e8 _ (0xE0 + n / 4096) (by omega), e8 _ (0x80 + n / 64 % 64) (by omega), e8 _ (0x80 + n % 64) (by omega)]
      · rw [encodeRuneZ_four (by omega) (by omega)]
        simp only [Utf8.encode, hv, if_true, Int.toNat_natCast, if_neg a, if_neg b, if_neg c, List.map_cons, List.map_nil]
        rw [e8 _ (0xF0 + n / 262144) (by omega), e8 _ (0x80 + n / 4096 % 64) (by omega), e8 _ (0x80 + n / 64 % 64) (by omega), e8 _ (0x80 + n % 64) (by omega)]
theorem bytes_enc {l : List Int} (h : ∀ r ∈ l, VR r) : runesBytes l = ⟨(encL l).toArray⟩ := by
  have : ∀ (l : List Int) (s : ByteArray), (∀ r ∈ l, VR r) → (l.foldl (fun r n => r ++ Utf8.encode n) s).data.toList = s.data.toList ++ encL l := by
    intro l
    induction l with
    | nil => intro s _; simp [encL]
    | cons x l ih =>
      intro s hl
      rw [List.foldl_cons, ih _ fun r hr => hl r (List.mem_cons_of_mem _ hr), encL_cons, ← enc_utf8 (hl x List.mem_cons_self)]
      simp [ByteArray.data_append]
  have h2 := this l ByteArray.empty h
  unfold runesBytes
  rw [ByteArray.ext_iff]
  apply Array.ext'
  rw [h2]
  rfl
theorem conv_runes {w : World} {base n cap : Nat} {a : Option Addr} {l : List Int} (ho : w.ownsRow base 21 1 (.slice a n cap) n (l.map encR)) (hl : l.length = n) (h : ∀ r ∈ l, VR r) (k : Nat) (hk : k ≤ n) (cap' : Nat) :
    (convert 36 9 (.slice a k cap')).run Try.prog w = .ok (.string ⟨(encL (l.take k)).toArray⟩) w := by
  rcases Nat.eq_zero_or_pos n with hz | hz
  · have hk0 : k = 0 := by omega
    subst hk0
    rw [List.take_zero]
    cases a with
    | none => exact run_convert_runes_nil w 36 9 21 _ _ Try.underlying36 Try.underlying21 Try.underlying9
    | some x =>
      rw [run_convert_runes w 36 9 21 x 0 cap' [] (by simp) Try.underlying36 Try.underlying21 Try.underlying9 (fun j hj => by simp at hj)]
      rfl
  · obtain ⟨g, c, hv, _, _⟩ := ho.form hz
    obtain rfl : a = some ⟨g, 0, none⟩ := by injection hv
    rw [run_convert_runes w 36 9 21 ⟨g, 0, none⟩ k cap' l (by omega) Try.underlying36 Try.underlying21 Try.underlying9 (fun j hj => by
      have hadd : (⟨g, 0, none⟩ : Addr).add j = ⟨g, j, none⟩ := by unfold Addr.add; split <;> simp_all
      rw [hadd, ho.cellAt j (by omega), List.getElem?_map, List.getElem?_eq_getElem hj]
      simp [encR, List.getD, List.getElem?_eq_getElem hj])]
    rw [bytes_enc fun r hr => h r (List.mem_of_mem_take hr)]
theorem owns_set {w : World} {base q n cap size : Nat} {e : TypeId} {xs : List Value} (h : w.ownsRow base e size (.slice (some ⟨q, 0, none⟩) n cap) n xs) (k : Nat) (u : Value) :
    (w.setCell ⟨q, k, none⟩ u).ownsRow base e size (.slice (some ⟨q, 0, none⟩) n cap) n (xs.set k u) := by
  obtain ⟨h1, h2⟩ := h
  rcases h2 with ⟨hn, _⟩ | ⟨g0, cap0, cur, he, hb, hg0, hnc, hcm, hcs, htk⟩
  · cases hn
  · obtain ⟨rfl, rfl⟩ : q = g0 ∧ cap = cap0 := by injection he with a b c; injection a with a; injection a with a; exact ⟨a, c⟩
    refine ⟨by simpa using h1, .inr ⟨q, cap, cur.setIfInBounds k u, rfl, hb, heap_setCell_same w q k cur e u hg0, hnc, hcm, by simpa using hcs, ?_⟩⟩
    rw [Array.toList_setIfInBounds, List.take_set, htk]
theorem owns_frozen {w : World} {base q n cap size : Nat} {e : TypeId} {xs : List Value} (h : w.ownsRow base e size (.slice (some ⟨q, 0, none⟩) n cap) n xs) (k : Nat) : w.frozen? ⟨q, k, none⟩ = false := by
  rcases h.2 with ⟨hn, _⟩ | ⟨g0, cap0, cur, he, hb, hg0, _⟩
  · cases hn
  · obtain ⟨rfl, rfl⟩ : q = g0 ∧ cap = cap0 := by injection he with a b c; injection a with a; injection a with a; exact ⟨a, c⟩
    simp [World.frozen?, hg0]
theorem owns_form {w : World} {base : Nat} {e : TypeId} {size : Nat} {v : Value} {n : Nat} {xs : List Value} (h : w.ownsRow base e size v n xs) : ∃ a cap, v = .slice a n cap ∧ n ≤ cap ∧ cap ≤ maxLen := by
  rcases h.2 with ⟨rfl, rfl⟩ | ⟨g, cap, cur, rfl, _, _, h1, h2, _⟩
  · exact ⟨none, 0, rfl, by omega, by simp [maxLen]⟩
  · exact ⟨_, cap, rfl, h1, h2⟩
theorem owns_below {w w' : World} {base : Nat} {e : TypeId} {size n : Nat} {v : Value} {xs : List Value} (h : w.ownsRow base e size v n xs) (hb : Below w.heap.size w w') : w'.ownsRow base e size v n xs := by
  refine ⟨h.1, h.2.elim Or.inl fun hx => Or.inr ?_⟩
  revert hx
  rintro ⟨g, cap, cur, hv, hbg, hg, r⟩
  exact ⟨g, cap, cur, hv, hbg, (hb.block g (block_lt hg)).trans hg, r⟩
set_option maxRecDepth 100000 in
set_option maxHeartbeats 400000 in
theorem rcount_any (s : ByteArray) (w : World) (hs : s.size ≤ 35184372088831) : Calls Try.prog 13 #[.string s] w fun e w' => e = .returned (.int .i64 (rs s).length) ∧ Below w.heap.size w w' := by
  go_enter Try.func13, Try.ntmps13
  go_wp2_with fail
  refine (rrunes_any s w hs).mono ?_
  rintro e w1 ⟨v, rfl, hv, hb⟩
  obtain ⟨a, cap, rfl, h1, h2⟩ := owns_form hv
  unfold maxLen at h2
  clear hv
  go_wp2_with fail
  go_ret
  exact ⟨rfl, hb⟩
/-- i runes are folded -/
def foldI (l : List Int) (i : Nat) : List Int := (l.take i).map foldR ++ l.drop i
theorem foldI_zero (l : List Int) : foldI l 0 = l := by simp [foldI]
theorem foldI_all (l : List Int) : foldI l l.length = l.map foldR := by simp [foldI]
theorem foldI_len (l : List Int) (i : Nat) : (foldI l i).length = l.length := by simp [foldI]; omega
theorem foldI_at {l : List Int} {i : Nat} {r : Int} (h : l[i]? = some r) : (foldI l i)[i]? = some r := by
  have hi := (List.getElem?_eq_some_iff.1 h).1
  unfold foldI
  rw [List.getElem?_append_right (by simp; omega)]
  simp only [List.length_map, List.length_take]
  rw [List.getElem?_drop, ← h]
  congr 1
  omega
theorem foldI_set {l : List Int} {i : Nat} {r : Int} (h : l[i]? = some r) : (foldI l i).set i (foldR r) = foldI l (i + 1) := by
  have hi := (List.getElem?_eq_some_iff.1 h).1
  have hd : l.drop i = r :: l.drop (i + 1) := by
    rw [List.drop_eq_getElem_cons hi]
    congr 1
    exact (List.getElem?_eq_some_iff.1 h).2
  unfold foldI
  rw [take_succ h, List.map_append, hd, List.set_append_right _ _ (by simp; omega)]
  simp only [List.length_map, List.length_take]
  rw [show i - min i l.length = 0 by omega]
  simp
set_option maxRecDepth 100000 in
set_option maxHeartbeats 1000000 in
theorem rfolded_any (s : ByteArray) (w : World) (hs : s.size ≤ 35184372088831) : Calls Try.prog 32 #[.string s] w fun e w' => ∃ v, e = .returned v ∧ w'.ownsRow w.heap.size 21 1 v (rs s).length (((rs s).map foldR).map encR) ∧ Below w.heap.size w w' := by
  have hrl := rs_len s
  have hvr := Lib.hid (rs_vr s)
  have hrr := rrunes_any s w hs
  generalize rs s = l at *
  go_enter Try.func32, Try.ntmps32
  go_wp2_with fail
  refine hrr.mono ?_
  rintro e w1 ⟨v, rfl, hv, hb⟩
  clear hrr
  obtain ⟨a, cap, rfl, h1, h2⟩ := owns_form hv
  unfold maxLen at h2
  have O0 := Lib.hid hv
  have B0 := Lib.hid hb
  clear hv hb
  go_wp2_with fail
  go_loopw [4] (fun iv wr => ∃ i : Nat, i ≤ l.length ∧ iv = .int .i64 i ∧ wr.ownsRow w.heap.size 21 1 (.slice a l.length cap) l.length ((foldI l i).map encR) ∧ Below w.heap.size w wr) (fun iv _ => l.length - (RowKit.intOf iv).toNat)
  case atStart => exact ⟨0, by omega, rfl, by rw [foldI_zero]; exact O0.out, B0.out⟩
  case round =>
    clear O0 B0
    obtain ⟨i, hi, rfl, hO, hB⟩ := hrel
    have BB := Lib.hid hB
    by_cases hlt : i < l.length
    · obtain ⟨g, c, hform, hg1, hg2⟩ := hO.form (by omega)
      obtain ⟨rfl, rfl⟩ : a = some ⟨g, 0, none⟩ ∧ cap = c := by injection hform with h1 _ h3; exact ⟨h1, h3⟩
      have hr : l[i]? = some l[i] := List.getElem?_eq_getElem hlt
      obtain ⟨r, hre⟩ : ∃ r, l[i] = r := ⟨_, rfl⟩
      rw [hre] at hr
      have hvb := hvr.out r (List.mem_of_getElem? hr)
      have h0 := hvb.1
      have h0' := hvb.2.2
      have c0 := hO.cellAt i (by omega)
      rw [List.getElem?_map, foldI_at hr] at c0
      simp only [Option.map_some, encR] at c0
      have f0 := owns_frozen hO i
      have O2 := Lib.hid (owns_set hO i (encR (foldR r)))
      have HS := Lib.hid (foldI_set hr)
      have B2 := Lib.hid (hB.setCell (p := ⟨g, i, none⟩) hg1 (encR (foldR r)))
      have j0 : (0 : Int) ≤ (i : Int) := by omega
      have j1 : (i : Int) < (l.length : Int) := by omega
      clear hO hB hform hr hre hvb
      go_wp2_with fail
      refine (rfold_any r wr h0 h0').mono ?_
      rintro e w2 ⟨rfl, rfl⟩
      go_wp2_with fail
      go_roundw
      case rel => exact ⟨i + 1, by omega, by go_num, by rw [← HS.out, List.map_set]; exact O2.out, B2.out⟩
      case measure => simp [RowKit.intOf]; omega
    · obtain rfl : i = l.length := by omega
      have OO := Lib.hid hO
      clear hO hB
      go_wp2_with fail
      go_ret
      exact ⟨_, rfl, by rw [← foldI_all]; exact OO.out, BB.out⟩
theorem map_vr {f : Int → Int} (hf : ∀ r, VR r → VR (f r)) (s : ByteArray) : ∀ r ∈ (rs s).map f, VR r := fun r hr => by
  obtain ⟨x, hx, rfl⟩ := List.mem_map.1 hr
  exact hf x (rs_vr s x hx)
set_option maxRecDepth 100000 in
set_option maxHeartbeats 400000 in
theorem rfoldS_any (s : ByteArray) (w : World) (hs : s.size ≤ 35184372088831) : Calls Try.prog 15 #[.string s] w fun e w' => e = .returned (.string ⟨(foldL s).toArray⟩) ∧ Below w.heap.size w w' := by
  have HV := Lib.hid (map_vr (f := foldR) (fun _ h => foldR_vr h) s)
  have HF := Lib.hid (show foldL s = encL ((rs s).map foldR) from rfl)
  go_enter Try.func15, Try.ntmps15
  go_wp2_with fail
  refine (rfolded_any s w hs).mono ?_
  rintro e w1 ⟨v, rfl, hv, hb⟩
  obtain ⟨a, cap, rfl, h1, h2⟩ := owns_form hv
  have hc := conv_runes hv (by simp) HV.out (rs s).length (Nat.le_refl _) cap
  rw [List.take_of_length_le (by simp), ← HF.out] at hc
  clear hv
  go_wp2_with fail
  go_ret
  exact ⟨rfl, hb⟩
set_option maxRecDepth 100000 in
set_option maxHeartbeats 1000000 in
theorem rcut_any (s : ByteArray) (n : Int) (w : World) (hs : s.size ≤ 35184372088831) : Calls Try.prog 22 #[.string s, .int .i64 n] w fun e w' => e = .returned (.string ⟨(cutL s n).toArray⟩) ∧ Below w.heap.size w w' := by
  have HV := Lib.hid (rs_vr s)
  have hrl := rs_len s
  have HF := Lib.hid (show ∀ m : Int, m.toNat = min n.toNat (rs s).length → encL ((rs s).take m.toNat) = cutL s n from fun m hm => by
    unfold cutL
    rw [hm]
    congr 1
    rw [List.take_eq_take_iff]
    omega)
  go_enter Try.func22, Try.ntmps22
  go_wp2_with fail
  refine (rrunes_any s w hs).mono ?_
  rintro e w1 ⟨v, rfl, hv, hb⟩
  obtain ⟨a, cap, rfl, h1, h2⟩ := owns_form hv
  have OO := Lib.hid hv
  unfold maxLen at h2
  have hc := conv_runes hv rfl HV.out (max 0 (min n ((rs s).length : Int))).toNat (by omega) cap
  rw [HF.out _ (by omega)] at hc
  clear hv
  go_wp2_with fail
  go_ret
  exact ⟨rfl, hb⟩
end Go.Proofs.Ytklfocciomngnaa
