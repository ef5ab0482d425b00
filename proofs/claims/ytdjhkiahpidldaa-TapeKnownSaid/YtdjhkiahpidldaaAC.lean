/- TapeBytes. -/
import Derived.Test.YtdjhkiahpidldaaAA
import Derived.Test.YtdjhkiahpidldaaAB
namespace Go.Proofs.Ytdjhkiahpidldaa
open Go.RowKit

attribute [local go_sem ↓] Go.wp_at_zero Go.wp_at_succ
theorem rbytes_at (v : Value) (s : Scr) (r : Int) (w : World) (h : ScrAt w v s) (hr : chkE s = r) : Calls Try.prog 17 #[v] w fun e w' => ∃ a cap, e = .returned (.tuple #[.slice a (bytesE s).length cap, .int .i64 r]) ∧ w'.ownsRow w.heap.size 5 1 (.slice a (bytesE s).length cap) (bytesE s).length ((bytesE s).map encU) ∧ (bytesE s).length ≤ cap ∧ cap ≤ maxLen ∧ Below w.heap.size w w' := by
  subst hr
  refine (rbytes_any v s w h).mono ?_
  rintro e w' ⟨v', rfl, ho, hb⟩
  obtain ⟨a, cap, rfl, h1, h2⟩ := owns_form ho
  exact ⟨a, cap, rfl, ho, h1, h2, hb⟩
set_option maxRecDepth 100000 in
set_option maxHeartbeats 1000000 in
theorem tapebytes_any (v : Value) (s : Scr) (w : World) (h : ScrAt w v s) (hn : ScrNil w v) (hz : Sz s) : Calls Try.prog 4 #[v] w fun e w' => e = .returned (.bool true) ∧ Below w.heap.size w w' := by
  obtain ⟨a1, cc1, ap1, cp1, rfl, hl1, hp1⟩ := h.val
  have hB0 : Below w.heap.size w (w.alloc (.cells #[.int .i64 s.cpus, .int .i64 s.pages, .slice a1 s.calls.length cc1, .slice ap1 s.picks.length cp1] 27)) := (Below.refl _ _).alloc (Nat.le_refl _) _
  have S1 := Lib.hid (h.below hB0)
  have N1 := Lib.hid (hn.below h hB0)
  have BW := Lib.hid hB0
  have T1 := Lib.hid (Blk.new w #[.int .i64 s.cpus, .int .i64 s.pages, .slice a1 s.calls.length cc1, .slice ap1 s.picks.length cp1] 27)
  have hc1 := h.lc
  have hlp := hp1.len
  have HZ := Lib.hid hz
  clear h hn hl1 hp1 hB0 hz
  obtain ⟨c, hc⟩ : ∃ c, chkE s = c := ⟨_, rfl⟩
  have HC := Lib.hid hc
  have hcc : (c == c) = true := by simp
  clear hc
  go_enter Try.func4, Try.ntmps4
  go_wp2_with fail
  generalize w.alloc (.cells #[.int .i64 s.cpus, .int .i64 s.pages, .slice a1 s.calls.length cc1, .slice ap1 s.picks.length cp1] 27) = W at *
  refine (copy_any _ s W S1.out N1.out HZ.out).mono ?_
  rintro e w2 ⟨v2, rfl, hS, hb⟩
  replace S1 := Lib.hid (S1.out.below hb)
  replace T1 := Lib.hid (T1.out.below hb)
  replace BW := Lib.hid (on BW.out hb)
  obtain ⟨a2, cc2, ap2, cp2, rfl, hl2, hp2⟩ := hS.val
  have S2 := Lib.hid hS
  clear hS hb hl2 hp2 N1
  go_wp2_with fail
  have hW : Below w2.heap.size w2 (w2.alloc (.cells #[.int .i64 s.cpus, .int .i64 s.pages, .slice a2 s.calls.length cc2, .slice ap2 s.picks.length cp2] 27)) := (Below.refl _ _).alloc (Nat.le_refl _) _
  have T2 := Lib.hid (Blk.new w2 #[.int .i64 s.cpus, .int .i64 s.pages, .slice a2 s.calls.length cc2, .slice ap2 s.picks.length cp2] 27)
  replace S1 := Lib.hid (S1.out.below hW)
  replace S2 := Lib.hid (S2.out.below hW)
  replace T1 := Lib.hid (T1.out.below hW)
  replace BW := Lib.hid (on BW.out hW)
  clear hW
  generalize w2.alloc (.cells #[.int .i64 s.cpus, .int .i64 s.pages, .slice a2 s.calls.length cc2, .slice ap2 s.picks.length cp2] 27) = w3 at *
  generalize w2.heap.size = V at *
  refine (bytes_at _ s 0 c w3 S2.out HC.out).mono ?_
  rintro e w4 ⟨ac, capc, rfl, ho, hca, hcm, hb⟩
  have I1 := Lib.hid (isSl_of_own ho rfl)
  replace S1 := Lib.hid (S1.out.below hb)
  replace S2 := Lib.hid (S2.out.below hb)
  replace T1 := Lib.hid (T1.out.below hb)
  replace T2 := Lib.hid (T2.out.below hb)
  replace BW := Lib.hid (on BW.out hb)
  have q := tcells T1.out
  obtain ⟨q0, q1, q2, q3⟩ := q
  clear ho hb
  go_wp2_with fail
  refine (rbytes_at _ s c w4 S1.out HC.out).mono ?_
  rintro e w5 ⟨ac2, capc2, rfl, ho, hca2, hcm2, hb⟩
  have I2 := Lib.hid (isSl_of_own ho rfl)
  replace I1 := Lib.hid (I1.out.below hb)
  replace S1 := Lib.hid (S1.out.below hb)
  replace S2 := Lib.hid (S2.out.below hb)
  replace T1 := Lib.hid (T1.out.below hb)
  replace T2 := Lib.hid (T2.out.below hb)
  replace BW := Lib.hid (on BW.out hb)
  clear ho hb q0 q1 q2 q3
  go_wp2_with fail
  have TB := Lib.hid (show Blk w5.drew w.heap.size #[.int .i64 s.cpus, .int .i64 s.pages, .slice a1 s.calls.length cc1, .slice ap1 s.picks.length cp1] 27 from T1.out)
  have TC := Lib.hid (show Blk w5.drew V #[.int .i64 s.cpus, .int .i64 s.pages, .slice a2 s.calls.length cc2, .slice ap2 s.picks.length cp2] 27 from T2.out)
  replace S1 := Lib.hid (S1.out.below (Below.refl _ w5).drew)
  replace S2 := Lib.hid (S2.out.below (Below.refl _ w5).drew)
  replace I1 := Lib.hid (I1.out.below (Below.refl _ w5).drew)
  replace I2 := Lib.hid (I2.out.below (Below.refl _ w5).drew)
  replace BW := Lib.hid BW.out.drew
  have hHB := And.intro (tcells TB.out) (tcells TC.out)
  clear T1 T2
  refine till_start 23 (fun w' : World => (w'.cell? ⟨w.heap.size, 0, none⟩ = some (.int .i64 s.cpus) ∧ w'.cell? ⟨w.heap.size, 1, none⟩ = some (.int .i64 s.pages) ∧ w'.cell? ⟨w.heap.size, 2, none⟩ = some (.slice a1 s.calls.length cc1) ∧ w'.cell? ⟨w.heap.size, 3, none⟩ = some (.slice ap1 s.picks.length cp1)) ∧ (w'.cell? ⟨V, 0, none⟩ = some (.int .i64 s.cpus) ∧ w'.cell? ⟨V, 1, none⟩ = some (.int .i64 s.pages) ∧ w'.cell? ⟨V, 2, none⟩ = some (.slice a2 s.calls.length cc2) ∧ w'.cell? ⟨V, 3, none⟩ = some (.slice ap2 s.picks.length cp2))) (by kernel_rfl) ?_
  generalize w5.drew = w6 at *
  refine till_take (i := 0) (v := ?_) rfl (by kernel_rfl) (by kernel_rfl) (by kernel_rfl) (by kernel_rfl) (fun _ _ _ h => h) (Or.inl ⟨by rfl, ?_⟩) hHB ?_
  rotate_left
  · (intro w hSw; (try dsimp only at hSw); go_simp; try with_reducible rfl)
  try simp only [Act.put, List.setIfInBounds_toArray, List.set_cons_zero, List.set_cons_succ]
  refine till_take (i := 2) (v := ?_) rfl (by kernel_rfl) (by kernel_rfl) (by kernel_rfl) (by kernel_rfl) (fun _ _ _ h => h) (Or.inl ⟨by rfl, ?_⟩) hHB ?_
  rotate_left
  · (intro w hSw; (try dsimp only at hSw); go_simp; try with_reducible rfl)
  try simp only [Act.put, List.setIfInBounds_toArray, List.set_cons_zero, List.set_cons_succ]
  refine till_one (i := 1) (by kernel_rfl) rfl (fun K hK => ?_)
  go_simp
  refine (check_any _ s w6 S2.out).mono ?_
  rintro e w7 ⟨rfl, hb⟩
  rw [HC.out]
  replace S1 := Lib.hid (S1.out.below hb)
  replace S2 := Lib.hid (S2.out.below hb)
  replace I1 := Lib.hid (I1.out.below hb)
  replace I2 := Lib.hid (I2.out.below hb)
  replace TB := Lib.hid (TB.out.below hb)
  replace TC := Lib.hid (TC.out.below hb)
  replace BW := Lib.hid (on BW.out hb)
  replace hHB := And.intro (tcells TB.out) (tcells TC.out)
  clear hb
  try go_wp2_with fail
  refine hK.out _ _ (fun _ => hHB) ?_
  clear hK K
  try simp only [Act.put, List.setIfInBounds_toArray, List.set_cons_zero, List.set_cons_succ]
  refine till_one (i := 3) (by kernel_rfl) rfl (fun K hK => ?_)
  go_simp
  refine (rcheck_any _ s w7 S1.out).mono ?_
  rintro e w8 ⟨rfl, hb⟩
  rw [HC.out]
  replace S1 := Lib.hid (S1.out.below hb)
  replace S2 := Lib.hid (S2.out.below hb)
  replace I1 := Lib.hid (I1.out.below hb)
  replace I2 := Lib.hid (I2.out.below hb)
  replace TB := Lib.hid (TB.out.below hb)
  replace TC := Lib.hid (TC.out.below hb)
  replace BW := Lib.hid (on BW.out hb)
  replace hHB := And.intro (tcells TB.out) (tcells TC.out)
  clear hb
  try go_wp2_with fail
  refine hK.out _ _ (fun _ => hHB) ?_
  clear hK K
  try simp only [Act.put, List.setIfInBounds_toArray, List.set_cons_zero, List.set_cons_succ]
  refine till_one (i := 4) (by kernel_rfl) rfl (fun K hK => ?_)
  go_simp
  refine hK.out _ _ (fun _ => hHB) ?_
  clear hK K
  try simp only [Act.put, List.setIfInBounds_toArray, List.set_cons_zero, List.set_cons_succ]
  refine till_one (i := 5) (by kernel_rfl) rfl (fun K hK => ?_)
  go_simp
  refine hK.out _ _ (fun _ => hHB) ?_
  clear hK K
  try simp only [Act.put, List.setIfInBounds_toArray, List.set_cons_zero, List.set_cons_succ]
  refine till_take (i := 6) (v := ?_) rfl (by kernel_rfl) (by kernel_rfl) (by kernel_rfl) (by kernel_rfl) (fun _ _ _ h => h) (Or.inl ⟨by rfl, ?_⟩) hHB ?_
  rotate_left
  · (intro w hSw; (try dsimp only at hSw); go_simp; try with_reducible rfl)
  try simp only [Act.put, List.setIfInBounds_toArray, List.set_cons_zero, List.set_cons_succ]
  refine till_take (i := 7) (v := ?_) rfl (by kernel_rfl) (by kernel_rfl) (by kernel_rfl) (by kernel_rfl) (fun _ _ _ h => h) (Or.inl ⟨by rfl, ?_⟩) hHB ?_
  rotate_left
  · (intro w hSw; (try dsimp only at hSw); go_simp; try with_reducible rfl)
  try simp only [Act.put, List.setIfInBounds_toArray, List.set_cons_zero, List.set_cons_succ]
  refine till_one (i := 8) (by kernel_rfl) rfl (fun K hK => ?_)
  go_simp
  refine (eqbytes_at (bytesE s) (bytesE s) true _ _ _ _ _ _ w8 rfl rfl (decide_eq_true rfl) (bytesE_is s) (bytesE_is s) I1.out I2.out).mono ?_
  rintro e w9 ⟨rfl, hb⟩
  replace S1 := Lib.hid (S1.out.below hb)
  replace S2 := Lib.hid (S2.out.below hb)
  replace I1 := Lib.hid (I1.out.below hb)
  replace I2 := Lib.hid (I2.out.below hb)
  replace TB := Lib.hid (TB.out.below hb)
  replace TC := Lib.hid (TC.out.below hb)
  replace BW := Lib.hid (on BW.out hb)
  replace hHB := And.intro (tcells TB.out) (tcells TC.out)
  clear hb
  try go_wp2_with fail
  refine hK.out _ _ (fun _ => hHB) ?_
  clear hK K
  try simp only [Act.put, List.setIfInBounds_toArray, List.set_cons_zero, List.set_cons_succ]
  refine till_one (i := 9) (by kernel_rfl) rfl (fun K hK => ?_)
  go_simp
  refine hK.out _ _ (fun _ => hHB) ?_
  clear hK K
  try simp only [Act.put, List.setIfInBounds_toArray, List.set_cons_zero, List.set_cons_succ]
  refine till_one (i := 10) (by kernel_rfl) rfl (fun K hK => ?_)
  go_simp
  refine hK.out _ _ (fun _ => hHB) ?_
  clear hK K
  try simp only [Act.put, List.setIfInBounds_toArray, List.set_cons_zero, List.set_cons_succ]
  refine till_take (i := 11) (v := ?_) rfl (by kernel_rfl) (by kernel_rfl) (by kernel_rfl) (by kernel_rfl) (fun _ _ _ h => h) (Or.inl ⟨by rfl, ?_⟩) hHB ?_
  rotate_left
  · (intro w hSw; (try dsimp only at hSw); go_simp; try with_reducible rfl)
  try simp only [Act.put, List.setIfInBounds_toArray, List.set_cons_zero, List.set_cons_succ]
  refine till_take (i := 12) (v := ?_) rfl (by kernel_rfl) (by kernel_rfl) (by kernel_rfl) (by kernel_rfl) (fun _ _ _ h => h) (Or.inl ⟨by rfl, ?_⟩) hHB ?_
  rotate_left
  · (intro w hSw; (try dsimp only at hSw); go_simp; try with_reducible rfl)
  try simp only [Act.put, List.setIfInBounds_toArray, List.set_cons_zero, List.set_cons_succ]
  refine till_one (i := 13) (by kernel_rfl) rfl (fun K hK => ?_)
  go_simp
  refine hK.out _ _ (fun _ => hHB) ?_
  clear hK K
  try simp only [Act.put, List.setIfInBounds_toArray, List.set_cons_zero, List.set_cons_succ]
  refine till_one (i := 14) (by kernel_rfl) rfl (fun K hK => ?_)
  go_simp
  refine hK.out _ _ (fun _ => hHB) ?_
  clear hK K
  try simp only [Act.put, List.setIfInBounds_toArray, List.set_cons_zero, List.set_cons_succ]
  refine till_one (i := 15) (by kernel_rfl) rfl (fun K hK => ?_)
  go_simp
  refine hK.out _ _ (fun _ => hHB) ?_
  clear hK K
  try simp only [Act.put, List.setIfInBounds_toArray, List.set_cons_zero, List.set_cons_succ]
  refine till_take (i := 16) (v := ?_) rfl (by kernel_rfl) (by kernel_rfl) (by kernel_rfl) (by kernel_rfl) (fun _ _ _ h => h) (Or.inl ⟨by rfl, ?_⟩) hHB ?_
  rotate_left
  · (intro w hSw; (try dsimp only at hSw); go_simp; try with_reducible rfl)
  try simp only [Act.put, List.setIfInBounds_toArray, List.set_cons_zero, List.set_cons_succ]
  refine till_take (i := 17) (v := ?_) rfl (by kernel_rfl) (by kernel_rfl) (by kernel_rfl) (by kernel_rfl) (fun _ _ _ h => h) (Or.inl ⟨by rfl, ?_⟩) hHB ?_
  rotate_left
  · (intro w hSw; (try dsimp only at hSw); go_simp; try with_reducible rfl)
  try simp only [Act.put, List.setIfInBounds_toArray, List.set_cons_zero, List.set_cons_succ]
  refine till_one (i := 18) (by kernel_rfl) rfl (fun K hK => ?_)
  go_simp
  refine (same11_any _ _ s s w9 S2.out S1.out).mono ?_
  rintro e w10 ⟨rfl, hb⟩
  rw [sameB_refl]
  replace S1 := Lib.hid (S1.out.below hb)
  replace S2 := Lib.hid (S2.out.below hb)
  replace I1 := Lib.hid (I1.out.below hb)
  replace I2 := Lib.hid (I2.out.below hb)
  replace TB := Lib.hid (TB.out.below hb)
  replace TC := Lib.hid (TC.out.below hb)
  replace BW := Lib.hid (on BW.out hb)
  replace hHB := And.intro (tcells TB.out) (tcells TC.out)
  clear hb
  try go_wp2_with fail
  refine hK.out _ _ (fun _ => hHB) ?_
  clear hK K
  try simp only [Act.put, List.setIfInBounds_toArray, List.set_cons_zero, List.set_cons_succ]
  refine till_one (i := 19) (by kernel_rfl) rfl (fun K hK => ?_)
  go_simp
  refine hK.out _ _ (fun _ => hHB) ?_
  clear hK K
  try simp only [Act.put, List.setIfInBounds_toArray, List.set_cons_zero, List.set_cons_succ]
  refine till_one (i := 20) (by kernel_rfl) rfl (fun K hK => ?_)
  go_simp
  refine hK.out _ _ (fun _ => hHB) ?_
  clear hK K
  try simp only [Act.put, List.setIfInBounds_toArray, List.set_cons_zero, List.set_cons_succ]
  refine till_one (i := 21) (by kernel_rfl) rfl (fun K hK => ?_)
  go_simp
  refine (works_any w10).mono ?_
  rintro e w11 ⟨rfl, hb⟩
  replace S1 := Lib.hid (S1.out.below hb)
  replace S2 := Lib.hid (S2.out.below hb)
  replace I1 := Lib.hid (I1.out.below hb)
  replace I2 := Lib.hid (I2.out.below hb)
  replace TB := Lib.hid (TB.out.below hb)
  replace TC := Lib.hid (TC.out.below hb)
  replace BW := Lib.hid (on BW.out hb)
  replace hHB := And.intro (tcells TB.out) (tcells TC.out)
  clear hb
  try go_wp2_with fail
  refine hK.out _ _ (fun _ => hHB) ?_
  clear hK K
  try simp only [Act.put, List.setIfInBounds_toArray, List.set_cons_zero, List.set_cons_succ]
  refine till_one (i := 22) (by kernel_rfl) rfl (fun K hK => ?_)
  go_simp
  refine hK.out _ _ (fun _ => hHB) ?_
  clear hK K
  try simp only [Act.put, List.setIfInBounds_toArray, List.set_cons_zero, List.set_cons_succ]
  refine till_one (i := 23) (by kernel_rfl) rfl (fun K hK => ?_)
  go_simp
  refine hK.out _ _ (fun h => absurd rfl h) ?_
  clear hK K
  try simp only [Act.put, List.setIfInBounds_toArray, List.set_cons_zero, List.set_cons_succ]
  refine till_done (by kernel_rfl) ?_ _
  go_wp2_with fail
  go_ret
  exact ⟨rfl, BW.out⟩
end Go.Proofs.Ytdjhkiahpidldaa
