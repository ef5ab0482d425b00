/- The walk over Bytes. -/
import Derived.Test.YtdjhkiahpidldaaP
namespace Go.Proofs.Ytdjhkiahpidldaa
open Go.RowKit

attribute [local go_sem ↓] Go.wp_at_zero Go.wp_at_succ
def raw0 (s : Scr) : List Int := [s.cpus - 1, (s.pages - 1) / 256, s.pages - 1]
def rawk (s : Scr) (k : Nat) : List Int := raw0 s ++ (s.calls.take k).flatMap encL
def rawm (s : Scr) (k : Nat) (l : List Cl) (m : Nat) : List Int := rawk s k ++ ((l.length : Int) :: (l.take m).flatMap encC)
def bytesE (s : Scr) : List Int := if validB s = true then (raw s).map m8 else []
theorem rawk_zero (s : Scr) : rawk s 0 = raw0 s := by simp [rawk]
theorem rawk_succ {s : Scr} {k : Nat} {l : List Cl} (h : s.calls[k]? = some l) : rawk s (k + 1) = rawm s k l l.length := by
  unfold rawk rawm
  rw [take_succ h, List.flatMap_append, List.take_length]
  simp [rawk, encL]
theorem rawm_succ {s : Scr} {k : Nat} {l : List Cl} {m : Nat} {c : Cl} (h : l[m]? = some c) : rawm s k l (m + 1) = rawm s k l m ++ encC c := by
  unfold rawm
  rw [take_succ h, List.flatMap_append]
  simp
theorem rawm_zero (s : Scr) (k : Nat) (l : List Cl) : rawm s k l 0 = rawk s k ++ [(l.length : Int)] := by simp [rawm]
theorem raw_all (s : Scr) : rawk s s.calls.length ++ s.picks = raw s := by simp [rawk, raw, raw0]
theorem len_calls (l : List Cl) : (l.flatMap encC).length = 5 * l.length := by
  induction l with
  | nil => rfl
  | cons x l ih => rw [List.flatMap_cons, List.length_append, ih]; simp [encC]; omega
theorem len_lists (l : List (List Cl)) (h : ∀ x ∈ l, x.length ≤ 64) : (l.flatMap encL).length ≤ 321 * l.length := by
  induction l with
  | nil => simp
  | cons x l ih =>
    have h1 := h x (by simp)
    have h2 := ih fun y hy => h y (by simp [hy])
    have h3 : (encL x).length ≤ 321 := by unfold encL; rw [List.length_cons, len_calls]; omega
    rw [List.flatMap_cons, List.length_append, List.length_cons]
    omega
theorem len_rawk (s : Scr) (h : ∀ x ∈ s.calls, x.length ≤ 64) (k : Nat) (hk : k ≤ 8) : (rawk s k).length ≤ 2571 := by
  have := len_lists (s.calls.take k) fun x hx => h x (List.mem_of_mem_take hx)
  have h2 := List.length_take_le k s.calls
  have h3 : (rawk s k).length = 3 + ((s.calls.take k).flatMap encL).length := by unfold rawk raw0; rw [List.length_append]; rfl
  omega
theorem len_rawm (s : Scr) (h : ∀ x ∈ s.calls, x.length ≤ 64) (k : Nat) (hk : k ≤ 8) (l : List Cl) (hl : l.length ≤ 64) (m : Nat) : (rawm s k l m).length ≤ 2892 := by
  have h1 := len_rawk s h k hk
  have h2 := len_calls (l.take m)
  have h3 := List.length_take_le' m l
  have h4 : (rawm s k l m).length = (rawk s k).length + (((l.take m).flatMap encC).length + 1) := by unfold rawm; rw [List.length_append, List.length_cons]
  omega
theorem valid_parts {s : Scr} (h : validB s = true) : (1 ≤ s.cpus ∧ s.cpus ≤ 8) ∧ (1 ≤ s.pages ∧ s.pages ≤ 1024) ∧ (s.calls.length : Int) = s.cpus ∧ s.picks.length ≤ 4096 ∧ (∀ l ∈ s.calls, l.length ≤ 64 ∧ ∀ c ∈ l, mayC c = true) ∧ ∀ n ∈ s.picks, 0 ≤ n ∧ n ≤ 255 := by
  unfold validB at h
  simp only [Bool.and_eq_true, decide_eq_true_eq, List.all_eq_true] at h
  obtain ⟨h1, h2, h3, h4, h5, h6⟩ := h
  refine ⟨win_t h1, win_t h2, h3, h4, fun l hl => ?_, fun n hn => win_t (h6 n hn)⟩
  have := h5 l hl
  simp only [listB, Bool.and_eq_true, decide_eq_true_eq, List.all_eq_true] at this
  exact this
set_option maxRecDepth 100000 in
set_option maxHeartbeats 1000000 in
theorem bytes_any (v : Value) (s : Scr) (w : World) (h : ScrAt w v s) : Calls Try.prog 16 #[v] w fun e w' => ∃ v', e = .returned (.tuple #[v', .int .i64 (chkE s)]) ∧ w'.ownsRow w.heap.size 5 1 v' (bytesE s).length ((bytesE s).map encU) ∧ Below w.heap.size w w' := by
  obtain ⟨a1, cc1, ap1, cp1, rfl, hl1, hp1⟩ := h.val
  have HH := Lib.hid h
  have HS := Lib.hid (h.below ((Below.refl _ _).alloc (Nat.le_refl _) (.cells #[.int .i64 s.cpus, .int .i64 s.pages, .slice a1 s.calls.length cc1, .slice ap1 s.picks.length cp1] 27)))
  have BW := Lib.hid (show Below w.heap.size w (w.alloc (.cells #[.int .i64 s.cpus, .int .i64 s.pages, .slice a1 s.calls.length cc1, .slice ap1 s.picks.length cp1] 27)) from (Below.refl _ _).alloc (Nat.le_refl _) _)
  have T := Lib.hid (Blk.new w #[.int .i64 s.cpus, .int .i64 s.pages, .slice a1 s.calls.length cc1, .slice ap1 s.picks.length cp1] 27)
  have HL1 := Lib.hid hl1
  have HP1 := Lib.hid hp1
  have hc1 := h.lc
  have hlp := hp1.len
  have LL := Lib.hid h.ll
  clear h hl1 hp1
  obtain ⟨bv, hbv⟩ : ∃ b, validB s = b := ⟨_, rfl⟩
  have HV := Lib.hid hbv
  go_enter Try.func16, Try.ntmps16
  go_wp2_with fail
  generalize w.alloc (.cells #[.int .i64 s.cpus, .int .i64 s.pages, .slice a1 s.calls.length cc1, .slice ap1 s.picks.length cp1] 27) = W at *
  refine (check_any _ s _ HS.out).mono ?_
  rintro e W1 ⟨rfl, hb1⟩
  have B1 := Lib.hid (on BW.out hb1)
  have T1 := Lib.hid (T.out.below hb1)
  clear hb1
  cases bv with
  | false =>
    have hE : chkE s = 2 := by unfold chkE; rw [hbv]; rfl
    have hY : bytesE s = [] := by unfold bytesE; rw [hbv]; rfl
    have HE := Lib.hid (And.intro hE hY)
    rw [hE]
    clear hE hY hbv
    go_wp2_with fail
    go_ret2
    exact ⟨.slice none 0 0, by rw [HE.out.1]; rfl, by rw [HE.out.2]; exact World.ownsRow_nil _ _ _ _, B1.out⟩
  | true =>
    obtain ⟨⟨c1, c2⟩, ⟨c3, c4⟩, hcl, hpl, hls, hps⟩ := valid_parts hbv
    have hE : chkE s = 0 := by unfold chkE; rw [hbv]; rfl
    have hY : bytesE s = (raw s).map m8 := by unfold bytesE; rw [hbv]; rfl
    have HE := Lib.hid (And.intro hE hY)
    have LS := Lib.hid hls
    have hc8 : s.calls.length ≤ 8 := by omega
    have HLK := Lib.hid (len_rawk s fun x hx => (hls x hx).1)
    have HLM := Lib.hid (len_rawm s fun x hx => (hls x hx).1)
    rw [hE]
    clear hE hY hbv hls hps
    have lt1 := T1.out.lt
    have q0 := T1.out.cell (i := 0) (v := .int .i64 s.cpus) rfl
    have q0' := fun a b => (World.cell?_of_block (w := W1) (a := ⟨w.heap.size, 0, none⟩) ((Blk.alloc (Blk.alloc T1.out a) b).trans T1.out.symm)).trans q0
    go_wp2_with fail
    clear q0' q0
    have ST0 := Lib.hid (show BSt w w.heap.size W1.heap.size (W1.heap.size + 1) #[.int .i64 s.cpus, .int .i64 s.pages, .slice a1 s.calls.length cc1, .slice ap1 s.picks.length cp1] [] ((W1.alloc (.cells #[.slice none 0 0] 22)).alloc (.cells #[.func (.func 27) #[] #[.pointer (some ⟨W1.heap.size, 0, none⟩)]] 53)) from
      ⟨⟨_, ⟨B1.out.size, (Blk.new W1 #[.slice none 0 0] 22).alloc _, World.ownsRow_nil _ _ _ _⟩⟩, (T1.out.alloc _).alloc _, by have := Blk.new (W1.alloc (.cells #[.slice none 0 0] 22)) #[.func (.func 27) #[] #[.pointer (some ⟨W1.heap.size, 0, none⟩)]] 53; simpa using this, (B1.out.alloc B1.out.size _).alloc (by have := B1.out.size; simp; omega) _, by omega, by omega⟩)
    refine (app_st [s.cpus - 1] _ 1 1 rfl (ST0.out.alloc _) (ar_lit (by simp) (by simp) rfl ST0.out.lt) (by simp)).mono ?_
    rintro e wA ⟨rfl, hS, hK⟩
    have ST1 := Lib.hid hS
    have hVlt := B1.out.size
    clear hS hK ST0 T1 B1 lt1
    generalize W1.heap.size + 1 = F at *
    generalize W1.heap.size = O at *
    have q1 := ST1.out.bV.cell (i := 1) (v := .int .i64 s.pages) rfl
    go_wp2_with fail
    refine (two_st _ ST1.out (by simp)).mono ?_
    rintro e wB ⟨rfl, hS, hK⟩
    have ST := Lib.hid (show BSt w w.heap.size O F #[.int .i64 s.cpus, .int .i64 s.pages, .slice a1 s.calls.length cc1, .slice ap1 s.picks.length cp1] ((rawk s 0).map m8) wB by rw [rawk_zero]; exact hS)
    clear hS hK ST1 q1
    have q2 := ST.out.bV.cell (i := 2) (v := .slice a1 s.calls.length cc1) rfl
    go_wp2_with fail
    clear q2
    clear HS BW T HH
    obtain ⟨cs, hcs⟩ : ∃ cs : Array Value, cs = #[.int .i64 s.cpus, .int .i64 s.pages, .slice a1 s.calls.length cc1, .slice ap1 s.picks.length cp1] := ⟨_, rfl⟩
    rw [← hcs] at ST
    have HCS := Lib.hid hcs
    clear hcs
    go_loopw [33] (fun i wr => ∃ k : Nat, k ≤ s.calls.length ∧ i = .int .i64 k ∧ BSt w w.heap.size O F cs ((rawk s k).map m8) wr) (fun i _ => s.calls.length - (intOf i).toNat)
    case atStart => exact ⟨0, Nat.zero_le _, rfl, ST.out⟩
    case round =>
      clear ST
      obtain ⟨k, hk, rfl, hS⟩ := hrel
      have ST := Lib.hid hS
      clear hS
      by_cases hlt : k < s.calls.length
      · obtain ⟨g, off, rfl, hLs⟩ := HL1.out (by intro e; rw [e] at hlt; simp at hlt)
        obtain ⟨l, hl⟩ : ∃ l, s.calls[k]? = some l := ⟨_, List.getElem?_eq_getElem hlt⟩
        obtain ⟨la, lc, c1, hI⟩ := hLs k l hl
        have hll := (LS.out l (List.mem_of_getElem? hl)).1
        have HX := Lib.hid (rawk_succ hl)
        have HI := Lib.hid hI
        replace c1 := below_cell ST.out.below (Nat.le_refl _) c1
        have i0 : (0 : Int) ≤ (k : Int) := by omega
        have i1 : (k : Int) < (s.calls.length : Int) := by omega
        have hk8 : k ≤ 8 := by omega
        clear hLs hl hI
        have qF := ST.out.bF.cell (i := 0) rfl
        simp at qF
        go_wp2_with fail
        refine (app_st [(l.length : Int)] _ 1 1 rfl (ST.out.alloc _) (ar_lit (by simp) (by simp) rfl ST.out.lt) (by have := HLK.out k (by omega); simp; omega)).mono ?_
        rintro e wA ⟨rfl, hS, hK⟩
        have ST1 := Lib.hid (show BSt w w.heap.size O F cs ((rawm s k l 0).map m8) wA by rw [rawm_zero, List.map_append]; exact hS)
        clear hS hK ST c1 qF
        go_wp2_with fail
        go_loopw [44] (fun i wr => ∃ m : Nat, m ≤ l.length ∧ i = .int .i64 m ∧ BSt w w.heap.size O F cs ((rawm s k l m).map m8) wr) (fun i _ => l.length - (intOf i).toNat)
        case atStart => exact ⟨0, Nat.zero_le _, rfl, ST1.out⟩
        case round =>
          clear ST1
          obtain ⟨m, hm, rfl, hS⟩ := hrel
          have ST := Lib.hid hS
          clear hS
          by_cases hml : m < l.length
          · obtain ⟨⟨x0, x1, x2, x3⟩, hx⟩ : ∃ x, l[m]? = some x := ⟨_, List.getElem?_eq_getElem hml⟩
            obtain ⟨g2, off2, rfl, hc⟩ := HI.out (by intro e; rw [e] at hml; simp at hml)
            obtain ⟨d0, d1, d2, d3⟩ := hc m _ hx
            replace d0 := below_cell ST.out.below (Nat.le_refl _) d0
            replace d1 := below_cell ST.out.below (Nat.le_refl _) d1
            replace d2 := below_cell ST.out.below (Nat.le_refl _) d2
            replace d3 := below_cell ST.out.below (Nat.le_refl _) d3
            have j0 : (0 : Int) ≤ (m : Int) := by omega
            have j1 : (m : Int) < (l.length : Int) := by omega
            dsimp only at d0 d1 d2 d3
            have HX2 := Lib.hid (rawm_succ (s := s) (k := k) hx)
            have HN := Lib.hid (HLM.out k hk8 l hll m)
            clear hx hc
            have qF := ST.out.bF.cell (i := 0) rfl
            have hFl := ST.out.bF.lt
            simp at qF
            go_wp2_with fail
            refine (app_st [x0, x1] _ 2 2 rfl ((ST.out.alloc _).alloc _) (ar_lit (by simp) (by simp) rfl (ST.out.alloc _).lt) (by have := HN.out; simp; omega)).mono ?_
            rintro e wA ⟨rfl, hS, hK⟩
            have BT := Lib.hid (hK.keep wr.heap.size #[.int .i64 x0, .int .i64 x1, .int .i64 x2, .int .i64 x3] 44 (Nat.ne_of_gt ST.out.lt) (by decide) ((Blk.new wr _ 44).alloc _))
            have hTn := Lib.hid (show wr.heap.size ≠ O from Nat.ne_of_gt ST.out.lt)
            have ST1 := Lib.hid hS
            clear hS hK ST d0 d1 d2 d3 qF hFl
            have q2 := BT.out.cell (i := 2) (v := .int .i64 x2) rfl
            go_wp2_with fail
            refine (two_st _ ST1.out (by have := HN.out; simp; omega)).mono ?_
            rintro e wB ⟨rfl, hS, hK⟩
            have BT2 := Lib.hid (hK.keep _ _ 44 hTn.out (by decide) BT.out)
            have ST2 := Lib.hid hS
            clear hS hK ST1 BT q2
            have q3 := BT2.out.cell (i := 3) (v := .int .i64 x3) rfl
            have qF := ST2.out.bF.cell (i := 0) rfl
            simp at qF
            go_wp2_with fail
            refine (app_st [x3] _ 1 1 rfl (ST2.out.alloc _) (ar_lit (by simp) (by simp) rfl ST2.out.lt) (by have := HN.out; simp; omega)).mono ?_
            rintro e wC ⟨rfl, hS, hK⟩
            have ST3 := Lib.hid (show BSt w w.heap.size O F cs ((rawm s k l (m + 1)).map m8) wC by rw [HX2.out, List.map_append]; simpa [encC] using hS)
            clear hS hK ST2 BT2 q3 qF
            go_wp2_with fail
            go_roundw
            case rel => exact ⟨m + 1, by omega, by go_num, ST3.out⟩
            case measure => simp [intOf]; omega
          · obtain rfl : m = l.length := by omega
            have ST2 := Lib.hid (show BSt w w.heap.size O F cs ((rawk s (k + 1)).map m8) wr by rw [HX.out]; exact ST.out)
            clear ST
            go_wp2_with fail
            go_roundw
            case rel => exact ⟨k + 1, by omega, by go_num, ST2.out⟩
            case measure => simp [intOf]; omega
      · obtain rfl : k = s.calls.length := by omega
        have hpi := ST.out.bV.cell (i := 3) (v := .slice ap1 s.picks.length cp1) (by rw [HCS.out]; rfl)
        have qF := ST.out.bF.cell (i := 0) rfl
        simp at qF
        have AR := Lib.hid (show Ar w.heap.size O wr ap1 s.picks from ⟨HP1.out.keep fun _ _ _ hc => below_cell ST.out.below (Nat.le_refl _) hc, by
          by_cases hne : s.picks = []
          · exact .inl hne
          · obtain ⟨b, off, ha, hc⟩ := HP1.out.2 hne
            obtain ⟨x, hx⟩ : ∃ x, s.picks[0]? = some x := ⟨_, List.getElem?_eq_getElem (List.length_pos_iff.2 hne)⟩
            exact .inr ⟨b, off, ha, .inl (World.block_lt_of_cell? w _ (hc 0 x hx))⟩⟩)
        have HN := Lib.hid (HLK.out s.calls.length hc8)
        go_wp2_with fail
        refine (app_st s.picks ap1 _ cp1 rfl ST.out AR.out (by have := HN.out; simp; omega)).mono ?_
        rintro e wA ⟨rfl, hS, hK⟩
        have hS' := hS
        rw [← List.map_append, raw_all] at hS'
        have ST2 := Lib.hid hS'
        clear hS hS' hK ST qF hpi
        obtain ⟨v, hv⟩ := ST2.out.bs
        have qO := hv.hb.cell (i := 0) rfl
        simp at qO
        have HO := Lib.hid hv.own
        clear hv
        go_wp2_with fail
        go_ret2
        exact ⟨v, by rw [HE.out.1]; rfl, by rw [HE.out.2]; exact HO.out, ST2.out.below⟩
end Go.Proofs.Ytdjhkiahpidldaa
