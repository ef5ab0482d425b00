/- Script of Bytes, in plain words. -/
import Derived.Test.YtdjhkiahpidldaaQ
namespace Go.Proofs.Ytdjhkiahpidldaa
open Go.RowKit

theorem flat_encC (l : List Cl) : ∀ (k : Nat) (c : Cl), l[k]? = some c → ∀ j, j < 5 → (l.flatMap encC)[k * 5 + j]? = (encC c)[j]? := by
  induction l with
  | nil => intro k c h; simp at h
  | cons x l ih =>
    intro k c h j hj
    have hx : (encC x).length = 5 := rfl
    cases k with
    | zero =>
      obtain rfl : x = c := by simpa using h
      rw [List.flatMap_cons, Nat.zero_mul, Nat.zero_add, List.getElem?_append_left (by omega)]
    | succ k =>
      rw [List.flatMap_cons, List.getElem?_append_right (by omega), hx, show (k + 1) * 5 + j - 5 = k * 5 + j by omega]
      exact ih k c (by simpa using h) j hj
theorem bt_mid {X Z Y : List Int} {p i : Nat} {x : Int} (hp : X.length = p) (h : Z[i]? = some x) : bt (X ++ (Z ++ Y)) (p + i) = x := by
  subst hp
  have hi : i < Z.length := (List.getElem?_eq_some_iff.1 h).1
  exact bt_some (by rw [List.getElem?_append_right (by omega), Nat.add_sub_cancel_left, List.getElem?_append_left hi, h])
theorem may_parts {c : Cl} (h : mayC c = true) : (0 ≤ c.1 ∧ c.1 ≤ 13) ∧ (0 ≤ c.2.1 ∧ c.2.1 ≤ 255) ∧ (0 ≤ c.2.2.1 ∧ c.2.2.1 ≤ 65535) ∧ (0 ≤ c.2.2.2 ∧ c.2.2.2 ≤ 255) := by
  unfold mayC at h
  simp only [Bool.and_eq_true] at h
  exact ⟨win_t h.1, win_t h.2.1, win_t h.2.2.1, win_t h.2.2.2⟩
/-- a list's bytes are read as the list -/
theorem read_list {X Y : List Int} {l : List Cl} {p : Nat} (hp : X.length = p) (h64 : l.length ≤ 64) (hm : ∀ c ∈ l, mayC c = true) :
    nAt (X ++ ((encL l).map m8 ++ Y)) p = l.length ∧ callsFrom (X ++ ((encL l).map m8 ++ Y)) p l.length = l := by
  have h0 : bt (X ++ ((encL l).map m8 ++ Y)) p = (l.length : Int) := by
    have := bt_mid (Y := Y) hp (Z := (encL l).map m8) (i := 0) (x := m8 l.length) rfl
    rw [Nat.add_zero] at this
    rw [this]; unfold m8; omega
  refine ⟨by unfold nAt; rw [h0]; omega, List.ext_getElem (by rw [callsFrom_len]) fun i h1 h2 => ?_⟩
  have hx : l[i]? = some l[i] := List.getElem?_eq_getElem h2
  obtain ⟨m1, m2, m3, m4⟩ := may_parts (hm _ (List.getElem_mem h2))
  have hat : ∀ j x, (encC l[i])[j]? = some x → j < 5 → bt (X ++ ((encL l).map m8 ++ Y)) (p + 1 + 5 * i + j) = m8 x := fun j x hj h5 => by
    rw [show p + 1 + 5 * i + j = p + (i * 5 + j + 1) by omega]
    refine bt_mid hp ?_
    unfold encL
    rw [List.getElem?_map, List.getElem?_cons_succ, flat_encC l i _ hx j h5, hj]; rfl
  have e0 := hat 0 _ rfl (by omega)
  have e1 := hat 1 _ rfl (by omega)
  have e2 := hat 2 _ rfl (by omega)
  have e3 := hat 3 _ rfl (by omega)
  have e4 := hat 4 _ rfl (by omega)
  rw [Nat.add_zero] at e0
  simp only [callsFrom, List.getElem_map, List.getElem_range, callAt]
  rw [e0, e1, e2, e3, e4]
  generalize l[i] = c at *
  obtain ⟨c0, c1, c2, c3⟩ := c
  simp only at m1 m2 m3 m4
  simp only [m8, Prod.mk.injEq]
  refine ⟨by omega, by omega, by omega, by omega⟩
theorem raw_split (s : Scr) (j : Nat) : raw s = rawk s j ++ ((s.calls.drop j).flatMap encL ++ s.picks) := by
  unfold raw rawk raw0
  have h := congrArg (List.flatMap encL) (List.take_append_drop j s.calls)
  rw [List.flatMap_append] at h
  rw [← h]
  simp
theorem raw_at {s : Scr} {k : Nat} {l : List Cl} (h : s.calls[k]? = some l) : (raw s).map m8 = (rawk s k).map m8 ++ ((encL l).map m8 ++ ((s.calls.drop (k + 1)).flatMap encL ++ s.picks).map m8) := by
  obtain ⟨hk, rfl⟩ := List.getElem?_eq_some_iff.1 h
  rw [raw_split s k, List.drop_eq_getElem_cons hk]
  simp only [List.flatMap_cons, List.map_append, List.append_assoc]
theorem pos_enc {s : Scr} (hv : validB s = true) : ∀ k, k ≤ s.calls.length → pos ((raw s).map m8) k = (rawk s k).length := by
  obtain ⟨-, -, -, -, hl, -⟩ := valid_parts hv
  intro k
  induction k with
  | zero => intro _; rw [rawk_zero]; rfl
  | succ k ih =>
    intro hk
    obtain ⟨l, hx⟩ : ∃ l, s.calls[k]? = some l := ⟨_, List.getElem?_eq_getElem (by omega)⟩
    obtain ⟨h1, h2⟩ := hl l (List.mem_of_getElem? hx)
    have hr := (read_list (X := (rawk s k).map m8) (Y := ((s.calls.drop (k + 1)).flatMap encL ++ s.picks).map m8) (p := (rawk s k).length) (by simp) h1 h2).1
    rw [← raw_at hx] at hr
    rw [pos, ih (by omega), hr, rawk_succ hx]
    unfold rawm
    rw [List.take_length, List.length_append, List.length_cons, len_calls]
    omega
theorem list_enc {s : Scr} (hv : validB s = true) {k : Nat} {l : List Cl} (hx : s.calls[k]? = some l) : listAt ((raw s).map m8) k = l := by
  obtain ⟨-, -, -, -, hl, -⟩ := valid_parts hv
  have hk := (List.getElem?_eq_some_iff.1 hx).1
  obtain ⟨h1, h2⟩ := hl l (List.mem_of_getElem? hx)
  have hr := read_list (X := (rawk s k).map m8) (Y := ((s.calls.drop (k + 1)).flatMap encL ++ s.picks).map m8) (p := (rawk s k).length) (by simp) h1 h2
  rw [← raw_at hx] at hr
  unfold listAt
  rw [pos_enc hv k (by omega), hr.1, hr.2]
/-- Script of Bytes is the script -/
theorem scr_enc {s : Scr} (hv : validB s = true) : scr (bytesE s) = s := by
  have hE : bytesE s = (raw s).map m8 := by unfold bytesE; rw [if_pos hv]
  rw [hE]
  obtain ⟨⟨c1, c2⟩, ⟨p1, p2⟩, hcl, hpl, hl, hp⟩ := valid_parts hv
  have b0 : bt ((raw s).map m8) 0 = m8 (s.cpus - 1) := rfl
  have b1 : bt ((raw s).map m8) 1 = m8 ((s.pages - 1) / 256) := rfl
  have b2 : bt ((raw s).map m8) 2 = m8 (s.pages - 1) := rfl
  have hN : cpusN ((raw s).map m8) = s.calls.length := by unfold cpusN; rw [b0]; unfold m8; omega
  have hP : pos ((raw s).map m8) s.calls.length = (rawk s s.calls.length).length := pos_enc hv _ (Nat.le_refl _)
  have hL : ((raw s).map m8).length = (rawk s s.calls.length).length + s.picks.length := by rw [List.length_map, ← raw_all, List.length_append]
  cases hs : s with
  | mk cp pg ca pk =>
  rw [← hs]
  unfold scr
  rw [hN, hP, hL, b0, b1, b2, Nat.add_sub_cancel_left, Nat.min_eq_left hpl]
  have e1 : 1 + m8 (s.cpus - 1) % 8 = s.cpus := by unfold m8; omega
  have e2 : 1 + (m8 ((s.pages - 1) / 256) * 256 + m8 (s.pages - 1)) % 1024 = s.pages := by unfold m8; omega
  have e3 : (List.range s.calls.length).map (listAt ((raw s).map m8)) = s.calls := by
    refine List.ext_getElem (by simp) fun i h1 h2 => ?_
    rw [List.getElem_map, List.getElem_range]
    exact list_enc hv (List.getElem?_eq_getElem h2)
  have e4 : picksFrom ((raw s).map m8) (rawk s s.calls.length).length s.picks.length = s.picks := by
    refine List.ext_getElem (by rw [picksFrom_len]) fun i h1 h2 => ?_
    have hb := hp _ (List.getElem_mem h2)
    have := bt_mid (X := (rawk s s.calls.length).map m8) (Z := s.picks.map m8) (Y := []) (i := i) (x := m8 s.picks[i]) (p := (rawk s s.calls.length).length) (by simp) (by rw [List.getElem?_map, List.getElem?_eq_getElem h2]; rfl)
    rw [List.append_nil, ← List.map_append, raw_all] at this
    simp only [picksFrom, List.getElem_map, List.getElem_range]
    rw [this]; unfold m8; omega
  rw [e1, e2, e3, e4]
theorem scr_valid {b : List Int} (hb : IsBytes b) : validB (scr b) = true := by
  have h0 := bt_bd hb
  have hc := cpusN_bd hb
  have hw : ∀ n a c : Int, a ≤ n → n ≤ c → win n a c = true := fun n a c h1 h2 => by simp [win, h1, h2]
  unfold validB
  simp only [Bool.and_eq_true, decide_eq_true_eq, List.all_eq_true]
  refine ⟨hw _ _ _ (by simp [scr]; omega) (by simp [scr]; omega), hw _ _ _ (by simp [scr]; omega) (by simp [scr]; omega), by simp [scr]; omega, by simp [scr, picksFrom_len]; omega, fun l hl => ?_, fun n hn => ?_⟩
  · simp only [scr, List.mem_map] at hl
    obtain ⟨i, _, rfl⟩ := hl
    unfold listB
    simp only [Bool.and_eq_true, decide_eq_true_eq, List.all_eq_true]
    refine ⟨by rw [listAt, callsFrom_len]; have := (nAt_bd hb (pos b i)).2; omega, fun c hc => ?_⟩
    simp only [listAt, callsFrom, List.mem_map] at hc
    obtain ⟨k, _, rfl⟩ := hc
    unfold mayC callAt
    have g0 := h0 (pos b i + 1 + 5 * k)
    have g1 := h0 (pos b i + 1 + 5 * k + 1)
    have g2 := h0 (pos b i + 1 + 5 * k + 2)
    have g3 := h0 (pos b i + 1 + 5 * k + 3)
    have g4 := h0 (pos b i + 1 + 5 * k + 4)
    simp only [Bool.and_eq_true]
    exact ⟨hw _ _ _ (by omega) (by omega), hw _ _ _ (by omega) (by omega), hw _ _ _ (by omega) (by omega), hw _ _ _ (by omega) (by omega)⟩
  · simp only [scr, picksFrom, List.mem_map] at hn
    obtain ⟨k, _, rfl⟩ := hn
    exact hw _ _ _ (h0 _).1 (h0 _).2
theorem bytesE_is (s : Scr) : IsBytes (bytesE s) := fun x hx => by
  unfold bytesE at hx
  split at hx
  · simp only [List.mem_map] at hx
    obtain ⟨y, _, rfl⟩ := hx
    unfold m8; omega
  · simp at hx
theorem bytesE_len {s : Scr} (hv : validB s = true) : 3 + s.calls.length ≤ (bytesE s).length ∧ (bytesE s).length ≤ 10000 := by
  obtain ⟨⟨c1, c2⟩, -, hcl, hpl, hl, -⟩ := valid_parts hv
  have hE : bytesE s = (raw s).map m8 := by unfold bytesE; rw [if_pos hv]
  have h1 := len_rawk s (fun x hx => (hl x hx).1) s.calls.length (by omega)
  have h2 : ∀ L : List (List Cl), L.length ≤ (L.flatMap encL).length := fun L => by
    induction L with
    | nil => simp
    | cons x L ih => rw [List.flatMap_cons, List.length_append, List.length_cons]; have : 1 ≤ (encL x).length := by unfold encL; simp
                     omega
  have h3 : (raw s).length = (rawk s s.calls.length).length + s.picks.length := by rw [← raw_all, List.length_append]
  have h4 : (rawk s s.calls.length).length = 3 + (s.calls.flatMap encL).length := by unfold rawk raw0; rw [List.take_length, List.length_append]; rfl
  have h5 := h2 s.calls
  rw [hE, List.length_map]
  omega
end Go.Proofs.Ytdjhkiahpidldaa
