/- TapeWhole. -/
import Derived.Test.YtdjhkiahpidldaaS
import Derived.Test.YtdjhkiahpidldaaT
namespace Go.Proofs.Ytdjhkiahpidldaa
open Go.RowKit

attribute [local go_sem ↓] Go.wp_at_zero Go.wp_at_succ
set_option maxRecDepth 100000 in
set_option maxHeartbeats 1000000 in
theorem tapewhole_any (v : Value) (s : Scr) (w : World) (h : ScrAt w v s) : Calls Try.prog 6 #[v] w fun e w' => e = .returned (.bool true) ∧ Below w.heap.size w w' := by
  obtain ⟨a1, cc1, ap1, cp1, rfl, hl1, hp1⟩ := h.val
  have HS := Lib.hid (h.below ((Below.refl _ _).alloc (Nat.le_refl _) (.cells #[.int .i64 s.cpus, .int .i64 s.pages, .slice a1 s.calls.length cc1, .slice ap1 s.picks.length cp1] 27)))
  have BW := Lib.hid (show Below w.heap.size w (w.alloc (.cells #[.int .i64 s.cpus, .int .i64 s.pages, .slice a1 s.calls.length cc1, .slice ap1 s.picks.length cp1] 27)) from (Below.refl _ _).alloc (Nat.le_refl _) _)
  have T := Lib.hid (Blk.new w #[.int .i64 s.cpus, .int .i64 s.pages, .slice a1 s.calls.length cc1, .slice ap1 s.picks.length cp1] 27)
  have hc1 := h.lc
  have hlp := hp1.len
  clear h hl1 hp1
  obtain ⟨bv, hbv⟩ : ∃ b, validB s = b := ⟨_, rfl⟩
  go_enter Try.func6, Try.ntmps6
  go_wp2_with fail
  generalize w.alloc (.cells #[.int .i64 s.cpus, .int .i64 s.pages, .slice a1 s.calls.length cc1, .slice ap1 s.picks.length cp1] 27) = W at *
  refine (bytes_at _ s 0 _ _ HS.out rfl).mono ?_
  rintro e w3 ⟨ac, capc, rfl, ho3, hc3, hm3, hb3⟩
  have T3 := Lib.hid (T.out.below hb3)
  have S3 := Lib.hid (HS.out.below hb3)
  have B3 := Lib.hid (on BW.out hb3)
  have I3 := Lib.hid (isSl_of_own ho3 rfl)
  clear ho3 hb3 T HS BW
  cases bv with
  | false =>
    have hE : chkE s = 2 := by unfold chkE; rw [hbv]; rfl
    have hY : bytesE s = [] := by unfold bytesE; rw [hbv]; rfl
    have HE := Lib.hid hE
    rw [hE, hY]
    have q := tcells T3.out
    obtain ⟨q0, q1, q2, q3⟩ := q
    clear hE hY hbv I3 hc3
    go_wp2_with fail
    refine (check_any _ s w3 S3.out).mono ?_
    rintro e w4 ⟨rfl, hb⟩
    rw [HE.out]
    replace B3 := Lib.hid (on B3.out hb)
    clear hb S3 T3 q0 q1 q2 q3
    go_wp2_with fail
    refine (works_any w4).mono ?_
    rintro e w5 ⟨rfl, hb⟩
    replace B3 := Lib.hid (on B3.out hb)
    clear hb
    go_wp2_with fail
    go_ret
    exact ⟨rfl, B3.out⟩
  | true =>
    have hE : chkE s = 0 := by unfold chkE; rw [hbv]; rfl
    have HE := Lib.hid (And.intro (scr_enc hbv) (And.intro (bytesE_is s) (bytesE_len hbv)))
    rw [hE]
    clear hE hbv
    go_wp2_with fail
    have TB := Lib.hid (show Blk w3.drew w.heap.size #[.int .i64 s.cpus, .int .i64 s.pages, .slice a1 s.calls.length cc1, .slice ap1 s.picks.length cp1] 27 from T3.out)
    replace S3 := Lib.hid (S3.out.below (Below.refl _ w3).drew)
    replace I3 := Lib.hid (I3.out.below (Below.refl _ w3).drew)
    replace B3 := Lib.hid B3.out.drew
    have hHB := tcells TB.out
    clear T3
    refine till_start 7 (fun w' : World => w'.cell? ⟨w.heap.size, 0, none⟩ = some (.int .i64 s.cpus) ∧ w'.cell? ⟨w.heap.size, 1, none⟩ = some (.int .i64 s.pages) ∧ w'.cell? ⟨w.heap.size, 2, none⟩ = some (.slice a1 s.calls.length cc1) ∧ w'.cell? ⟨w.heap.size, 3, none⟩ = some (.slice ap1 s.picks.length cp1)) (by kernel_rfl) ?_
    generalize w3.drew = w4 at *
    refine till_take (i := 0) (v := ?_) rfl (by kernel_rfl) (by kernel_rfl) (by kernel_rfl) (by kernel_rfl) (fun _ _ _ h => h) (Or.inl ⟨by rfl, ?_⟩) hHB ?_
    rotate_left
    · (intro w hSw; (try dsimp only at hSw); go_simp; try with_reducible rfl)
    try simp only [Act.put, List.setIfInBounds_toArray, List.set_cons_zero, List.set_cons_succ]
    refine till_take (i := 2) (v := ?_) rfl (by kernel_rfl) (by kernel_rfl) (by kernel_rfl) (by kernel_rfl) (fun _ _ _ h => h) (Or.inl ⟨by rfl, ?_⟩) hHB ?_
    rotate_left
    · (intro w hSw; (try dsimp only at hSw); go_simp; try with_reducible rfl)
    try simp only [Act.put, List.setIfInBounds_toArray, List.set_cons_zero, List.set_cons_succ]
    refine till_one (i := 1) (by kernel_rfl) rfl (fun K hK => ?_)
    go_simp
    refine (script_any (bytesE s) ac capc w4 HE.out.2.1 I3.out hc3 (by unfold maxLen at hm3; omega)).mono ?_
    rintro e w6 ⟨v6, rfl, hs, hb⟩
    have S6 := Lib.hid (by have := hs.at HE.out.2.1; rwa [HE.out.1] at this)
    clear hs
    replace S3 := Lib.hid (S3.out.below hb)
    replace B3 := Lib.hid (on B3.out hb)
    have Tw6 := Lib.hid (TB.out.below hb)
    clear TB
    have TB := Tw6
    clear Tw6
    replace hHB := tcells TB.out
    try go_wp2_with fail
    refine hK.out _ _ (fun _ => hHB) ?_
    clear hK K
    try simp only [Act.put, List.setIfInBounds_toArray, List.set_cons_zero, List.set_cons_succ]
    clear hb
    refine till_one (i := 3) (by kernel_rfl) rfl (fun K hK => ?_)
    go_simp
    refine (same20_any _ _ s s w6 S6.out S3.out).mono ?_
    rintro e w7 ⟨rfl, hb⟩
    rw [sameB_refl]
    replace B3 := Lib.hid (on B3.out hb)
    have Tw7 := Lib.hid (TB.out.below hb)
    clear TB
    have TB := Tw7
    clear Tw7
    replace hHB := tcells TB.out
    try go_wp2_with fail
    refine hK.out _ _ (fun _ => hHB) ?_
    clear hK K
    try simp only [Act.put, List.setIfInBounds_toArray, List.set_cons_zero, List.set_cons_succ]
    clear hb S3 S6
    refine till_one (i := 4) (by kernel_rfl) rfl (fun K hK => ?_)
    go_simp
    refine hK.out _ _ (fun _ => hHB) ?_
    clear hK K
    try simp only [Act.put, List.setIfInBounds_toArray, List.set_cons_zero, List.set_cons_succ]
    refine till_one (i := 5) (by kernel_rfl) rfl (fun K hK => ?_)
    go_simp
    refine (works_any w7).mono ?_
    rintro e w8 ⟨rfl, hb⟩
    replace B3 := Lib.hid (on B3.out hb)
    have Tw8 := Lib.hid (TB.out.below hb)
    clear TB
    have TB := Tw8
    clear Tw8
    replace hHB := tcells TB.out
    try go_wp2_with fail
    refine hK.out _ _ (fun _ => hHB) ?_
    clear hK K
    try simp only [Act.put, List.setIfInBounds_toArray, List.set_cons_zero, List.set_cons_succ]
    clear hb
    refine till_one (i := 6) (by kernel_rfl) rfl (fun K hK => ?_)
    go_simp
    refine hK.out _ _ (fun _ => hHB) ?_
    clear hK K
    try simp only [Act.put, List.setIfInBounds_toArray, List.set_cons_zero, List.set_cons_succ]
    refine till_one (i := 7) (by kernel_rfl) rfl (fun K hK => ?_)
    go_simp
    refine hK.out _ _ (fun h => absurd rfl h) ?_
    clear hK K
    try simp only [Act.put, List.setIfInBounds_toArray, List.set_cons_zero, List.set_cons_succ]
    refine till_done (by kernel_rfl) ?_ _
    go_wp2_with fail
    go_ret
    exact ⟨rfl, B3.out⟩
end Go.Proofs.Ytdjhkiahpidldaa
