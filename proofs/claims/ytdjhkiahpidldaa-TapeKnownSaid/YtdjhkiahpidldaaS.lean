/- TapeBack. -/
import Derived.Test.YtdjhkiahpidldaaR
import Derived.Deep.DeepCutAuto
namespace Go.Proofs.Ytdjhkiahpidldaa
open Go.RowKit

attribute [local go_sem ↓] Go.wp_at_zero Go.wp_at_succ
theorem bytes_at (v : Value) (s : Scr) (c r : Int) (w : World) (h : ScrAt w v s) (hr : chkE s = r) : Calls Try.prog 16 #[v] w fun e w' => ∃ a cap, e = .returned (.tuple #[.slice a (bytesE s).length cap, .int .i64 r]) ∧ w'.ownsRow w.heap.size 5 1 (.slice a (bytesE s).length cap) (bytesE s).length ((bytesE s).map encU) ∧ (bytesE s).length ≤ cap ∧ cap ≤ maxLen ∧ Below w.heap.size w w' := by
  subst hr
  refine (bytes_any v s w h).mono ?_
  rintro e w' ⟨v', rfl, ho, hb⟩
  obtain ⟨a, cap, rfl, h1, h2⟩ := owns_form ho
  exact ⟨a, cap, rfl, ho, h1, h2, hb⟩
theorem tcells {w : World} {V : Nat} {a b c d : Value} {t : TypeId} (h : Blk w V #[a, b, c, d] t) : w.cell? ⟨V, 0, none⟩ = some a ∧ w.cell? ⟨V, 1, none⟩ = some b ∧ w.cell? ⟨V, 2, none⟩ = some c ∧ w.cell? ⟨V, 3, none⟩ = some d :=
  ⟨h.cell rfl, h.cell rfl, h.cell rfl, h.cell rfl⟩
set_option maxRecDepth 100000 in
set_option maxHeartbeats 1000000 in
theorem tapeback_any (b : List Int) (a : Option Addr) (cap : Nat) (w : World) (hb0 : IsBytes b) (hI : IsSl encU w a b) (hcap : b.length ≤ cap) (hcm : cap ≤ 9223372036854775807) :
    Calls Try.prog 5 #[.slice a b.length cap] w fun e w' => e = .returned (.bool true) ∧ Below w.heap.size w w' := by
  have HI := Lib.hid hI
  have hv := scr_valid hb0
  have hE : chkE (scr b) = 0 := by unfold chkE; rw [hv]; rfl
  have HE := Lib.hid (And.intro hE (And.intro (scr_enc hv) (And.intro (bytesE_is (scr b)) (bytesE_len hv))))
  have HV := Lib.hid (valid_parts hv)
  clear hI hv hE
  go_enter Try.func5, Try.ntmps5
  go_wp2_with fail
  refine (works_any w).mono ?_
  rintro e w1 ⟨rfl, hb1⟩
  have B1 := Lib.hid hb1
  clear hb1
  go_wp2_with fail
  refine (script_any b a cap w1 hb0 (HI.out.below B1.out) hcap hcm).mono ?_
  rintro e w2 ⟨v2, rfl, hs, hb2⟩
  have S2 := Lib.hid (hs.at hb0)
  obtain ⟨g2, cc2, vp2, rfl, hg2, hl2, hp2⟩ := hs
  obtain ⟨ap2, cp2, rfl, hcp1, hcp2⟩ := owns_form hp2
  have B2 := Lib.hid (on B1.out hb2)
  clear hb2 hl2 hp2 B1 hg2 hcp1 hcp2
  go_wp2_with fail
  have T := Lib.hid (Blk.new w2 #[.int .i64 (scr b).cpus, .int .i64 (scr b).pages, .slice (some ⟨g2, 0, none⟩) (scr b).calls.length cc2, .slice ap2 (scr b).picks.length cp2] 27)
  have hW : Below w2.heap.size w2 (w2.alloc (.cells #[.int .i64 (scr b).cpus, .int .i64 (scr b).pages, .slice (some ⟨g2, 0, none⟩) (scr b).calls.length cc2, .slice ap2 (scr b).picks.length cp2] 27)) := (Below.refl _ _).alloc (Nat.le_refl _) _
  replace S2 := Lib.hid (S2.out.below hW)
  replace B2 := Lib.hid (on B2.out hW)
  clear hW
  generalize w2.alloc (.cells #[.int .i64 (scr b).cpus, .int .i64 (scr b).pages, .slice (some ⟨g2, 0, none⟩) (scr b).calls.length cc2, .slice ap2 (scr b).picks.length cp2] 27) = W at *
  generalize w2.heap.size = V at *
  refine (bytes_at _ (scr b) 0 0 _ S2.out HE.out.1).mono ?_
  rintro e w3 ⟨ac, capc, rfl, ho3, hc3, hm3, hb3⟩
  have T3 := Lib.hid (T.out.below hb3)
  have S3 := Lib.hid (S2.out.below hb3)
  have B3 := Lib.hid (on B2.out hb3)
  have I3 := Lib.hid (isSl_of_own ho3 rfl)
  clear ho3 hb3 T S2 B2
  go_wp2_with fail
  have TB := Lib.hid (show Blk w3.drew V #[.int .i64 (scr b).cpus, .int .i64 (scr b).pages, .slice (some ⟨g2, 0, none⟩) (scr b).calls.length cc2, .slice ap2 (scr b).picks.length cp2] 27 from T3.out)
  replace S3 := Lib.hid (S3.out.below (Below.refl _ w3).drew)
  replace I3 := Lib.hid (I3.out.below (Below.refl _ w3).drew)
  replace B3 := Lib.hid B3.out.drew
  have hHB := tcells TB.out
  clear T3
  refine till_start 21 (fun w' : World => w'.cell? ⟨V, 0, none⟩ = some (.int .i64 (scr b).cpus) ∧ w'.cell? ⟨V, 1, none⟩ = some (.int .i64 (scr b).pages) ∧ w'.cell? ⟨V, 2, none⟩ = some (.slice (some ⟨g2, 0, none⟩) (scr b).calls.length cc2) ∧ w'.cell? ⟨V, 3, none⟩ = some (.slice ap2 (scr b).picks.length cp2)) (by kernel_rfl) ?_
  generalize w3.drew = w4 at *
  refine till_one (i := 0) (by kernel_rfl) rfl (fun K hK => ?_)
  go_simp
  refine hK.out _ _ (fun _ => hHB) ?_
  clear hK K
  try simp only [Act.put, List.setIfInBounds_toArray, List.set_cons_zero, List.set_cons_succ]
  refine till_one (i := 1) (by kernel_rfl) rfl (fun K hK => ?_)
  go_simp
  refine (check_any _ (scr b) w4 S3.out).mono ?_
  rintro e w5 ⟨rfl, hb⟩
  rw [HE.out.1]
  replace S3 := Lib.hid (S3.out.below hb)
  replace I3 := Lib.hid (I3.out.below hb)
  replace B3 := Lib.hid (on B3.out hb)
  have Tw5 := Lib.hid (TB.out.below hb)
  clear TB
  have TB := Tw5
  clear Tw5
  replace hHB := tcells TB.out
  try go_wp2_with fail
  refine hK.out _ _ (fun _ => hHB) ?_
  clear hK K
  try simp only [Act.put, List.setIfInBounds_toArray, List.set_cons_zero, List.set_cons_succ]
  clear hb
  refine till_one (i := 2) (by kernel_rfl) rfl (fun K hK => ?_)
  go_simp
  refine hK.out _ _ (fun _ => hHB) ?_
  clear hK K
  try simp only [Act.put, List.setIfInBounds_toArray, List.set_cons_zero, List.set_cons_succ]
  refine till_one (i := 3) (by kernel_rfl) rfl (fun K hK => ?_)
  go_simp
  refine hK.out _ _ (fun _ => hHB) ?_
  clear hK K
  try simp only [Act.put, List.setIfInBounds_toArray, List.set_cons_zero, List.set_cons_succ]
  refine till_one (i := 4) (by kernel_rfl) rfl (fun K hK => ?_)
  go_simp
  refine hK.out _ _ (fun _ => hHB) ?_
  clear hK K
  try simp only [Act.put, List.setIfInBounds_toArray, List.set_cons_zero, List.set_cons_succ]
  refine till_one (i := 5) (by kernel_rfl) rfl (fun K hK => ?_)
  go_simp
  refine hK.out _ _ (fun _ => hHB) ?_
  clear hK K
  try simp only [Act.put, List.setIfInBounds_toArray, List.set_cons_zero, List.set_cons_succ]
  refine till_one (i := 6) (by kernel_rfl) rfl (fun K hK => ?_)
  go_simp
  refine hK.out _ _ (fun _ => hHB) ?_
  clear hK K
  try simp only [Act.put, List.setIfInBounds_toArray, List.set_cons_zero, List.set_cons_succ]
  refine till_one (i := 7) (by kernel_rfl) rfl (fun K hK => ?_)
  go_simp
  refine hK.out _ _ (fun _ => hHB) ?_
  clear hK K
  try simp only [Act.put, List.setIfInBounds_toArray, List.set_cons_zero, List.set_cons_succ]
  refine till_take (i := 8) (v := ?_) rfl (by kernel_rfl) (by kernel_rfl) (by kernel_rfl) (by kernel_rfl) (fun _ _ _ h => h) (Or.inl ⟨by rfl, ?_⟩) hHB ?_
  rotate_left
  · (intro w hSw; (try dsimp only at hSw); go_simp; try with_reducible rfl)
  try simp only [Act.put, List.setIfInBounds_toArray, List.set_cons_zero, List.set_cons_succ]
  refine till_take (i := 10) (v := ?_) rfl (by kernel_rfl) (by kernel_rfl) (by kernel_rfl) (by kernel_rfl) (fun _ _ _ h => h) (Or.inl ⟨by rfl, ?_⟩) hHB ?_
  rotate_left
  · (intro w hSw; (try dsimp only at hSw); go_simp; try with_reducible rfl)
  try simp only [Act.put, List.setIfInBounds_toArray, List.set_cons_zero, List.set_cons_succ]
  refine till_one (i := 9) (by kernel_rfl) rfl (fun K hK => ?_)
  go_simp
  refine (script_any (bytesE (scr b)) ac capc w5 HE.out.2.2.1 I3.out hc3 (by unfold maxLen at hm3; omega)).mono ?_
  rintro e w6 ⟨v6, rfl, hs, hb⟩
  rw [HE.out.2.1] at hs
  have S6 := Lib.hid (hs.at hb0)
  clear hs
  replace S3 := Lib.hid (S3.out.below hb)
  replace B3 := Lib.hid (on B3.out hb)
  have Tw6 := Lib.hid (TB.out.below hb)
  clear TB
  have TB := Tw6
  clear Tw6
  replace hHB := tcells TB.out
  try go_wp2_with fail
  refine hK.out _ _ (fun _ => hHB) ?_
  clear hK K
  try simp only [Act.put, List.setIfInBounds_toArray, List.set_cons_zero, List.set_cons_succ]
  clear hb
  refine till_one (i := 11) (by kernel_rfl) rfl (fun K hK => ?_)
  go_simp
  refine (same20_any _ _ (scr b) (scr b) w6 S6.out S3.out).mono ?_
  rintro e w7 ⟨rfl, hb⟩
  rw [sameB_refl]
  replace B3 := Lib.hid (on B3.out hb)
  have Tw7 := Lib.hid (TB.out.below hb)
  clear TB
  have TB := Tw7
  clear Tw7
  replace hHB := tcells TB.out
  try go_wp2_with fail
  refine hK.out _ _ (fun _ => hHB) ?_
  clear hK K
  try simp only [Act.put, List.setIfInBounds_toArray, List.set_cons_zero, List.set_cons_succ]
  clear hb S3 S6
  refine till_one (i := 12) (by kernel_rfl) rfl (fun K hK => ?_)
  go_simp
  refine hK.out _ _ (fun _ => hHB) ?_
  clear hK K
  try simp only [Act.put, List.setIfInBounds_toArray, List.set_cons_zero, List.set_cons_succ]
  refine till_one (i := 13) (by kernel_rfl) rfl (fun K hK => ?_)
  go_simp
  refine hK.out _ _ (fun _ => hHB) ?_
  clear hK K
  try simp only [Act.put, List.setIfInBounds_toArray, List.set_cons_zero, List.set_cons_succ]
  have hlen : (3 : Int) + (scr b).cpus ≤ ((bytesE (scr b)).length : Int) := by have h1 := HE.out.2.2.2.1; have h2 := HV.out.2.2.1; omega
  have hwr : IntKind.i64.wrap (3 + (scr b).cpus) = 3 + (scr b).cpus := by have h1 := HV.out.1; exact wraps_i64 _ (by omega) (by omega)
  refine till_take (i := 14) (v := ?_) rfl (by kernel_rfl) (by kernel_rfl) (by kernel_rfl) (by kernel_rfl) (fun _ _ _ h => h) (Or.inl ⟨by rfl, ?_⟩) hHB ?_
  rotate_left
  · (intro w hSw; (try dsimp only at hSw); go_simp; try with_reducible rfl)
  try simp only [Act.put, List.setIfInBounds_toArray, List.set_cons_zero, List.set_cons_succ]
  refine till_take (i := 15) (v := ?_) rfl (by kernel_rfl) (by kernel_rfl) (by kernel_rfl) (by kernel_rfl) (fun _ _ _ h => h) (Or.inl ⟨by rfl, ?_⟩) hHB ?_
  rotate_left
  · (intro w hSw; (try dsimp only at hSw); go_simp; try with_reducible rfl)
  try simp only [Act.put, List.setIfInBounds_toArray, List.set_cons_zero, List.set_cons_succ]
  refine till_one (i := 16) (by kernel_rfl) rfl (fun K hK => ?_)
  go_simp
  refine hK.out _ _ (fun _ => hHB) ?_
  clear hK K
  try simp only [Act.put, List.setIfInBounds_toArray, List.set_cons_zero, List.set_cons_succ]
  refine till_one (i := 17) (by kernel_rfl) rfl (fun K hK => ?_)
  go_simp
  refine hK.out _ _ (fun _ => hHB) ?_
  clear hK K
  try simp only [Act.put, List.setIfInBounds_toArray, List.set_cons_zero, List.set_cons_succ]
  refine till_one (i := 18) (by kernel_rfl) rfl (fun K hK => ?_)
  go_simp
  refine hK.out _ _ (fun _ => hHB) ?_
  clear hK K
  try simp only [Act.put, List.setIfInBounds_toArray, List.set_cons_zero, List.set_cons_succ]
  refine till_one (i := 19) (by kernel_rfl) rfl (fun K hK => ?_)
  go_simp
  refine hK.out _ _ (fun _ => hHB) ?_
  clear hK K
  try simp only [Act.put, List.setIfInBounds_toArray, List.set_cons_zero, List.set_cons_succ]
  refine till_one (i := 20) (by kernel_rfl) rfl (fun K hK => ?_)
  go_simp
  refine hK.out _ _ (fun _ => hHB) ?_
  clear hK K
  try simp only [Act.put, List.setIfInBounds_toArray, List.set_cons_zero, List.set_cons_succ]
  refine till_one (i := 21) (by kernel_rfl) rfl (fun K hK => ?_)
  go_simp
  refine hK.out _ _ (fun h => absurd rfl h) ?_
  clear hK K
  try simp only [Act.put, List.setIfInBounds_toArray, List.set_cons_zero, List.set_cons_succ]
  refine till_done (by kernel_rfl) ?_ _
  go_wp2_with fail
  go_ret
  exact ⟨rfl, B3.out⟩
theorem tapeback_arg {zs : List Int} {a : Option Addr} {len cap : Nat} {w : World} (A : ArgSl encU w a len cap (zs.take len)) (hwf : ∀ n ∈ zs, (Lit.int .u8 n).wf = true) (hl : cap * 1 ≤ 140737488355328) :
    Calls Try.prog 5 #[.slice a len cap] w fun e w' => e = .returned (.bool true) ∧ Below w.heap.size w w' := by
  have hle := A.hle
  have := tapeback_any (zs.take len) a cap w (bytes_of_wf hwf len) A.hsl (by rw [A.hlen]; exact hle) (by omega)
  rwa [A.hlen] at this
end Go.Proofs.Ytdjhkiahpidldaa
