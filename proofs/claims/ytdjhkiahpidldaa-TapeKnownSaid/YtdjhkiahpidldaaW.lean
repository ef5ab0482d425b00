/- Bytes more are picks more; CopyInts. -/
import Derived.Test.YtdjhkiahpidldaaR
namespace Go.Proofs.Ytdjhkiahpidldaa
open Go.RowKit

theorem pos_tail {s : Scr} (hv : validB s = true) (E : List Int) : ∀ k, k ≤ s.calls.length → pos ((raw s).map m8 ++ E) k = (rawk s k).length := by
  obtain ⟨-, -, -, -, hl, -⟩ := valid_parts hv
  intro k
  induction k with
  | zero => intro _; rw [rawk_zero]; rfl
  | succ k ih =>
    intro hk
    obtain ⟨l, hx⟩ : ∃ l, s.calls[k]? = some l := ⟨_, List.getElem?_eq_getElem (by omega)⟩
    obtain ⟨h1, h2⟩ := hl l (List.mem_of_getElem? hx)
    have hr := (read_list (X := (rawk s k).map m8) (Y := ((s.calls.drop (k + 1)).flatMap encL ++ s.picks).map m8 ++ E) (p := (rawk s k).length) (by simp) h1 h2).1
    rw [← List.append_assoc ((encL l).map m8), ← List.append_assoc, ← raw_at hx] at hr
    rw [pos, ih (by omega), hr, rawk_succ hx]
    unfold rawm
    rw [List.take_length, List.length_append, List.length_cons, len_calls]
    omega
theorem list_tail {s : Scr} (hv : validB s = true) (E : List Int) {k : Nat} {l : List Cl} (hx : s.calls[k]? = some l) : listAt ((raw s).map m8 ++ E) k = l := by
  obtain ⟨-, -, -, -, hl, -⟩ := valid_parts hv
  have hk := (List.getElem?_eq_some_iff.1 hx).1
  obtain ⟨h1, h2⟩ := hl l (List.mem_of_getElem? hx)
  have hr := read_list (X := (rawk s k).map m8) (Y := ((s.calls.drop (k + 1)).flatMap encL ++ s.picks).map m8 ++ E) (p := (rawk s k).length) (by simp) h1 h2
  rw [← List.append_assoc ((encL l).map m8), ← List.append_assoc, ← raw_at hx] at hr
  unfold listAt
  rw [pos_tail hv E k (by omega), hr.1, hr.2]
/-- bytes more are picks more -/
theorem scr_tail {s : Scr} (hv : validB s = true) (E : List Int) : scr (bytesE s ++ E) = ⟨s.cpus, s.pages, s.calls, (s.picks ++ E).take 4096⟩ := by
  have hE : bytesE s = (raw s).map m8 := by unfold bytesE; rw [if_pos hv]
  rw [hE]
  obtain ⟨⟨c1, c2⟩, ⟨p1, p2⟩, hcl, hpl, hl, hp⟩ := valid_parts hv
  have b0 : bt ((raw s).map m8 ++ E) 0 = m8 (s.cpus - 1) := rfl
  have b1 : bt ((raw s).map m8 ++ E) 1 = m8 ((s.pages - 1) / 256) := rfl
  have b2 : bt ((raw s).map m8 ++ E) 2 = m8 (s.pages - 1) := rfl
  have hN : cpusN ((raw s).map m8 ++ E) = s.calls.length := by unfold cpusN; rw [b0]; unfold m8; omega
  have hP : pos ((raw s).map m8 ++ E) s.calls.length = (rawk s s.calls.length).length := pos_tail hv E _ (Nat.le_refl _)
  have hpm : s.picks.map m8 = s.picks := by
    refine List.ext_getElem (by simp) fun i h1 h2 => ?_
    have hb := hp _ (List.getElem_mem h2)
    rw [List.getElem_map]; unfold m8; omega
  have hsp : (raw s).map m8 ++ E = (rawk s s.calls.length).map m8 ++ (s.picks ++ E) := by
    rw [← raw_all, List.map_append, hpm, List.append_assoc]
  have hL : ((raw s).map m8 ++ E).length = (rawk s s.calls.length).length + (s.picks ++ E).length := by rw [hsp, List.length_append, List.length_map]
  unfold scr
  rw [hN, hP, hL, b0, b1, b2, Nat.add_sub_cancel_left]
  have e1 : 1 + m8 (s.cpus - 1) % 8 = s.cpus := by unfold m8; omega
  have e2 : 1 + (m8 ((s.pages - 1) / 256) * 256 + m8 (s.pages - 1)) % 1024 = s.pages := by unfold m8; omega
  have e3 : (List.range s.calls.length).map (listAt ((raw s).map m8 ++ E)) = s.calls := by
    refine List.ext_getElem (by simp) fun i h1 h2 => ?_
    rw [List.getElem_map, List.getElem_range]
    exact list_tail hv E (List.getElem?_eq_getElem h2)
  have e4 : picksFrom ((raw s).map m8 ++ E) (rawk s s.calls.length).length (min (s.picks ++ E).length 4096) = (s.picks ++ E).take 4096 := by
    refine List.ext_getElem (by rw [picksFrom_len, List.length_take]; omega) fun i h1 h2 => ?_
    rw [List.length_take] at h2
    have hi : i < (s.picks ++ E).length := by omega
    have := bt_mid (X := (rawk s s.calls.length).map m8) (Z := s.picks ++ E) (Y := []) (i := i) (x := (s.picks ++ E)[i]) (p := (rawk s s.calls.length).length) (by simp) (List.getElem?_eq_getElem hi)
    rw [List.append_nil, ← hsp] at this
    simp only [picksFrom, List.getElem_map, List.getElem_range, List.getElem_take]
    exact this
  rw [e1, e2, e3, e4]
theorem bytes_inj {s t : Scr} (hs : validB s = true) (ht : validB t = true) : decide (bytesE s = bytesE t) = sameB s t := by
  rw [Bool.eq_iff_iff, decide_eq_true_eq, sameB_iff]
  exact ⟨fun h => by rw [← scr_enc hs, ← scr_enc ht, h], fun h => by rw [h]⟩
set_option maxHeartbeats 400000 in
theorem copyints_any (xs : List Int) (a : Option Addr) (ka : Nat) (w : World) (hx : IsSl encI w a xs) (hnil : a = none → ka = 0) (hsz : xs.length * 8 ≤ 140737488355328) :
    Calls Try.prog 21 #[.slice a xs.length ka] w fun e w' => ∃ v, e = .returned v ∧ w'.ownsRow w.heap.size 3 1 v xs.length (xs.map encI) ∧ Below w.heap.size w w' := by
  obtain ⟨i0, hi, hz0, hz1, hz2⟩ := info_parts info3
  have HX := Lib.hid hx
  cases a with
  | none =>
    obtain rfl := hnil rfl
    obtain rfl : xs = [] := by
      by_cases h : xs = []
      · exact h
      · obtain ⟨b, off, he, _⟩ := hx.2 h; cases he
    clear hnil hx
    go_enter Try.func21, Try.ntmps21
    go_wp2_with (at_builtin; refine wpList_append_own_none rfl _ _ 25 rfl w.heap.size 3 i0 1 Try.underlying25 hi _ 0 [] rfl (World.ownsRow_nil _ _ _ _) rfl ?_)
    go_ret
    exact ⟨_, rfl, World.ownsRow_nil _ _ _ _, Below.refl _ _⟩
  | some ad =>
    have hc : ∀ j u, (xs.map encI)[j]? = some u → w.cell? (ad.add j) = some u := by
      intro j u hj
      rw [List.getElem?_map] at hj
      cases hxj : xs[j]? with
      | none => rw [hxj] at hj; cases hj
      | some x =>
        rw [hxj] at hj
        obtain ⟨b, off, he, hcell⟩ := hx.2 (by intro e; rw [e] at hxj; simp at hxj)
        cases he
        have hplain : (⟨b, off, none⟩ : Addr).add j = ⟨b, off + j, none⟩ := by unfold Addr.add; split <;> simp_all
        rw [hplain, hcell j x hxj]; exact hj
    have HC := Lib.hid hc
    clear hnil hx hc
    go_enter Try.func21, Try.ntmps21
    go_wp2_with (at_builtin; refine wpList_append_own _ rfl _ _ 25 rfl w.heap.size 3 i0 _ 1 8 Try.underlying25 hi hz0 hz1 hz2 rfl (by decide) _ 0 [] rfl (World.ownsRow_nil _ _ _ _) ad xs.length ka (xs.map encI) rfl (by simp) HC.out (by simp [Value.oneCell', encI]) (by unfold maxLen; omega) (by omega) (Nat.le_refl _) ?_; intro v' w1 hown' hgrow _)
    go_ret
    exact ⟨_, rfl, by simpa using hown', (Below.refl _ _).grown hgrow (Nat.le_refl _) (fun g e => by cases e)⟩
end Go.Proofs.Ytdjhkiahpidldaa
