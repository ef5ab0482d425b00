/- A tree in memory; what its methods read. -/
import Derived.Test.YtkkjnnmjfamkjaaA
import Derived.Test.YtkkjnnmjfamkjaaBL
import Derived.Test.YtkkjnnmjfamkjaaG
namespace Go.Proofs.Ytkkjnnmjfamkjaa
open Go.RowKit

attribute [local go_sem ↓] Go.wp_at_zero Go.wp_at_succ
def gpCells (x : Gp) : List Value := [.int .i64 x.1, .int .i64 x.2.1, .bool x.2.2]
/-- the tree at B, its groups in block q -/
structure TrAt (w : World) (base B q cap : Nat) (T : List Gp) : Prop where
  blk : Blk w B #[.slice (some ⟨q, 0, none⟩) T.length cap] 49
  own : w.ownsRow base 51 3 (.slice (some ⟨q, 0, none⟩) T.length cap) T.length (T.flatMap gpCells)
theorem flat_gp (l : List Gp) : ∀ (k : Nat) (c : Gp), l[k]? = some c → ∀ j, j < 3 → (l.flatMap gpCells)[k * 3 + j]? = (gpCells c)[j]? := by
  induction l with
  | nil => intro k c h; simp at h
  | cons x l ih =>
    intro k c h j hj
    have hx : (gpCells x).length = 3 := rfl
    rw [List.flatMap_cons]
    cases k with
    | zero =>
      obtain rfl : x = c := by simpa using h
      rw [Nat.zero_mul, Nat.zero_add, List.getElem?_append_left (by omega)]
    | succ k =>
      rw [List.getElem?_append_right (by omega), hx, show (k + 1) * 3 + j - 3 = k * 3 + j by omega]
      exact ih k c (by simpa using h) j hj
theorem TrAt.at {w : World} {base B q cap : Nat} {T : List Gp} (h : TrAt w base B q cap T) {k : Nat} {x : Gp} (hx : T[k]? = some x) :
    w.cell? ⟨q, k * 3, none⟩ = some (.int .i64 x.1) ∧ w.cell? ⟨q, k * 3 + 1, none⟩ = some (.int .i64 x.2.1) ∧ w.cell? ⟨q, k * 3 + 2, none⟩ = some (.bool x.2.2) := by
  have hk := (List.getElem?_eq_some_iff.1 hx).1
  have at_ : ∀ j, j < 3 → w.cell? ⟨q, k * 3 + j, none⟩ = (gpCells x)[j]? := fun j hj => by
    rw [h.own.cellAt (k * 3 + j) (by omega), flat_gp T k x hx j hj]
  exact ⟨at_ 0 (by omega), at_ 1 (by omega), at_ 2 (by omega)⟩
set_option maxRecDepth 100000 in
set_option maxHeartbeats 400000 in
theorem none_in (F : Fence) (n : Nat) (h25 : F.fn 25) (hro : F.round = none) (w : World) (base B q cap : Nat) (T : List Gp) (h : TrAt w base B q cap T) (hne : T ≠ []) (hl : T.length ≤ 16) :
    CallsIn F n Try.prog 25 #[.pointer (some ⟨B, 0, none⟩)] w fun e w' => e = .returned (.bool false) ∧ w = w' := by
  have c0 := h.blk.cell (i := 0) rfl
  simp at c0
  have hpos : 0 < T.length := List.length_pos_iff.2 hne
  have hz : ((T.length : Int) == 0) = false := by simp; exact hne
  clear h hne
  refine callsIn_of_wp Try.func25 rfl h25 ?_ hro
  simp only [Try.ntmps25, List.size_toArray, List.length_cons, List.length_nil, Nat.reduceAdd, Nat.reduceSub, Array.replicate_succ, Array.replicate_zero, List.push_toArray, List.append_toArray, List.nil_append, List.cons_append]
  gi_wp2
  go_ret
  exact ⟨rfl, rfl⟩
set_option maxRecDepth 100000 in
set_option maxHeartbeats 400000 in
theorem of_in (F : Fence) (n : Nat) (h25 : F.fn 25) (h26 : F.fn 26) (hro : F.round = none) (hn : 1 ≤ n) (w : World) (base B q cap : Nat) (T : List Gp) (g : Int) (x : Gp) (h : TrAt w base B q cap T) (hne : T ≠ []) (hl : T.length ≤ 16) (hg : gAt T g = some x) :
    CallsIn F n Try.prog 26 #[.pointer (some ⟨B, 0, none⟩), .int .i64 g] w fun e w' => e = .returned (.pointer (some ⟨q, (g.toNat - 1) * 3, none⟩)) ∧ w = w' := by
  have hN := none_in F (n - 1) h25 hro w base B q cap T h hne hl
  obtain ⟨g1, g2, g3⟩ := gAt_lt hg
  have c0 := h.blk.cell (i := 0) rfl
  simp at c0
  clear h hg
  refine callsIn_of_wp Try.func26 rfl h26 ?_ hro
  simp only [Try.ntmps26, List.size_toArray, List.length_cons, List.length_nil, Nat.reduceAdd, Nat.reduceSub, Array.replicate_succ, Array.replicate_zero, List.push_toArray, List.append_toArray, List.nil_append, List.cons_append]
  gi_wp2
  refine hN.mono ?_
  rintro e w1 ⟨rfl, rfl⟩
  have hi0 : 0 ≤ g - 1 := by omega
  have hi1 : g - 1 < T.length := by omega
  clear hN
  gi_wp2
  go_ret
  exact ⟨rfl, rfl⟩
set_option maxRecDepth 100000 in
set_option maxHeartbeats 400000 in
theorem of_none_in (F : Fence) (n : Nat) (h25 : F.fn 25) (h26 : F.fn 26) (hro : F.round = none) (hn : 1 ≤ n) (w : World) (base B q cap : Nat) (T : List Gp) (g : Int) (h : TrAt w base B q cap T) (hne : T ≠ []) (hl : T.length ≤ 16) (hg : gAt T g = none) :
    CallsIn F n Try.prog 26 #[.pointer (some ⟨B, 0, none⟩), .int .i64 g] w fun e w' => e = .returned (.pointer none) ∧ w = w' := by
  have hN := none_in F (n - 1) h25 hro w base B q cap T h hne hl
  have c0 := h.blk.cell (i := 0) rfl
  simp at c0
  rcases gAt_none hg with g1 | g1
  · clear h hg
    refine callsIn_of_wp Try.func26 rfl h26 ?_ hro
    simp only [Try.ntmps26, List.size_toArray, List.length_cons, List.length_nil, Nat.reduceAdd, Nat.reduceSub, Array.replicate_succ, Array.replicate_zero, List.push_toArray, List.append_toArray, List.nil_append, List.cons_append]
    gi_wp2
    refine hN.mono ?_
    rintro e w1 ⟨rfl, rfl⟩
    clear hN
    gi_wp2
    go_ret
    exact ⟨rfl, rfl⟩
  · have g2 : ¬ g < 1 := by omega
    clear h hg
    refine callsIn_of_wp Try.func26 rfl h26 ?_ hro
    simp only [Try.ntmps26, List.size_toArray, List.length_cons, List.length_nil, Nat.reduceAdd, Nat.reduceSub, Array.replicate_succ, Array.replicate_zero, List.push_toArray, List.append_toArray, List.nil_append, List.cons_append]
    gi_wp2
    refine hN.mono ?_
    rintro e w1 ⟨rfl, rfl⟩
    clear hN
    gi_wp2
    go_ret
    exact ⟨rfl, rfl⟩
/-- the cells of group g -/
theorem TrAt.grp {w : World} {base B q cap : Nat} {T : List Gp} (h : TrAt w base B q cap T) {g : Int} {x : Gp} (hg : gAt T g = some x) :
    w.cell? ⟨q, (g.toNat - 1) * 3, none⟩ = some (.int .i64 x.1) ∧ w.cell? ⟨q, (g.toNat - 1) * 3 + 1, none⟩ = some (.int .i64 x.2.1) ∧ w.cell? ⟨q, (g.toNat - 1) * 3 + 2, none⟩ = some (.bool x.2.2) := by
  have h3 := (gAt_lt hg).2.2
  rw [show (g - 1).toNat = g.toNat - 1 by omega] at h3
  exact h.at h3
/-- Parent, Depth, Online, Many -/
def parentT (T : List Gp) (g : Int) : Int := match gAt T g with | some x => x.1 | none => 0
def depthT (T : List Gp) (g : Int) : Int := match gAt T g with | some x => x.2.1 | none => 0
def onT (T : List Gp) (g : Int) : Bool := match gAt T g with | some x => !x.2.2 | none => false
set_option maxRecDepth 100000 in
set_option maxHeartbeats 400000 in
theorem parent_any (w : World) (base B q cap : Nat) (T : List Gp) (g : Int) (h : TrAt w base B q cap T) (hne : T ≠ []) (hl : T.length ≤ 16) :
    Calls Try.prog 21 #[.pointer (some ⟨B, 0, none⟩), .int .i64 g] w fun e w' => e = .returned (.int .i64 (parentT T g)) ∧ w = w' := by
  cases hg : gAt T g with
  | none =>
    have hO := callsIn_wide.1 (of_none_in Fence.wide 10 trivial trivial rfl (by omega) w base B q cap T g h hne hl hg)
    have HR := Lib.hid (show parentT T g = 0 by unfold parentT; rw [hg])
    clear h hg
    go_enter Try.func21, Try.ntmps21
    go_wp2_with fail
    refine hO.mono ?_
    rintro e w1 ⟨rfl, rfl⟩
    clear hO
    go_wp2_with fail
    go_ret
    exact ⟨ret1 HR.out.symm, rfl⟩
  | some x =>
    have hO := callsIn_wide.1 (of_in Fence.wide 10 trivial trivial rfl (by omega) w base B q cap T g x h hne hl hg)
    obtain ⟨c0, c1, c2⟩ := h.grp hg
    have HR := Lib.hid (show parentT T g = x.1 by unfold parentT; rw [hg])
    clear h hg
    go_enter Try.func21, Try.ntmps21
    go_wp2_with fail
    refine hO.mono ?_
    rintro e w1 ⟨rfl, rfl⟩
    clear hO
    go_wp2_with fail
    go_ret
    exact ⟨ret1 HR.out.symm, rfl⟩
set_option maxRecDepth 100000 in
set_option maxHeartbeats 400000 in
theorem depth_any (w : World) (base B q cap : Nat) (T : List Gp) (g : Int) (h : TrAt w base B q cap T) (hne : T ≠ []) (hl : T.length ≤ 16) :
    Calls Try.prog 20 #[.pointer (some ⟨B, 0, none⟩), .int .i64 g] w fun e w' => e = .returned (.int .i64 (depthT T g)) ∧ w = w' := by
  cases hg : gAt T g with
  | none =>
    have hO := callsIn_wide.1 (of_none_in Fence.wide 10 trivial trivial rfl (by omega) w base B q cap T g h hne hl hg)
    have HR := Lib.hid (show depthT T g = 0 by unfold depthT; rw [hg])
    clear h hg
    go_enter Try.func20, Try.ntmps20
    go_wp2_with fail
    refine hO.mono ?_
    rintro e w1 ⟨rfl, rfl⟩
    clear hO
    go_wp2_with fail
    go_ret
    exact ⟨ret1 HR.out.symm, rfl⟩
  | some x =>
    have hO := callsIn_wide.1 (of_in Fence.wide 10 trivial trivial rfl (by omega) w base B q cap T g x h hne hl hg)
    obtain ⟨c0, c1, c2⟩ := h.grp hg
    have HR := Lib.hid (show depthT T g = x.2.1 by unfold depthT; rw [hg])
    clear h hg
    go_enter Try.func20, Try.ntmps20
    go_wp2_with fail
    refine hO.mono ?_
    rintro e w1 ⟨rfl, rfl⟩
    clear hO
    go_wp2_with fail
    go_ret
    exact ⟨ret1 HR.out.symm, rfl⟩
set_option maxRecDepth 100000 in
set_option maxHeartbeats 400000 in
theorem online_in (F : Fence) (n : Nat) (h24 : F.fn 24) (h25 : F.fn 25) (h26 : F.fn 26) (hro : F.round = none) (hn : 2 ≤ n) (w : World) (base B q cap : Nat) (T : List Gp) (g : Int) (h : TrAt w base B q cap T) (hne : T ≠ []) (hl : T.length ≤ 16) :
    CallsIn F n Try.prog 24 #[.pointer (some ⟨B, 0, none⟩), .int .i64 g] w fun e w' => e = .returned (.bool (onT T g)) ∧ w = w' := by
  have hn1 : 1 ≤ n := by omega
  cases hg : gAt T g with
  | none =>
    have hO := of_none_in F (n - 1) h25 h26 hro (by omega) w base B q cap T g h hne hl hg
    have HR := Lib.hid (show onT T g = false by unfold onT; rw [hg])
    clear h hg
    refine callsIn_of_wp Try.func24 rfl h24 ?_ hro
    simp only [Try.ntmps24, List.size_toArray, List.length_cons, List.length_nil, Nat.reduceAdd, Nat.reduceSub, Array.replicate_succ, Array.replicate_zero, List.push_toArray, List.append_toArray, List.nil_append, List.cons_append]
    gi_wp2
    refine hO.mono ?_
    rintro e w1 ⟨rfl, rfl⟩
    clear hO
    gi_wp2
    go_ret
    exact ⟨retB HR.out.symm, rfl⟩
  | some x =>
    have hO := of_in F (n - 1) h25 h26 hro (by omega) w base B q cap T g x h hne hl hg
    obtain ⟨c0, c1, c2⟩ := h.grp hg
    have HR := Lib.hid (show onT T g = !x.2.2 by unfold onT; rw [hg])
    clear h hg
    refine callsIn_of_wp Try.func24 rfl h24 ?_ hro
    simp only [Try.ntmps24, List.size_toArray, List.length_cons, List.length_nil, Nat.reduceAdd, Nat.reduceSub, Array.replicate_succ, Array.replicate_zero, List.push_toArray, List.append_toArray, List.nil_append, List.cons_append]
    gi_wp2
    refine hO.mono ?_
    rintro e w1 ⟨rfl, rfl⟩
    clear hO
    gi_wp2
    go_ret
    exact ⟨retB HR.out.symm, rfl⟩
theorem online_any (w : World) (base B q cap : Nat) (T : List Gp) (g : Int) (h : TrAt w base B q cap T) (hne : T ≠ []) (hl : T.length ≤ 16) :
    Calls Try.prog 24 #[.pointer (some ⟨B, 0, none⟩), .int .i64 g] w fun e w' => e = .returned (.bool (onT T g)) ∧ w = w' :=
  callsIn_wide.1 (online_in Fence.wide 10 trivial trivial trivial rfl (by omega) w base B q cap T g h hne hl)
set_option maxRecDepth 100000 in
set_option maxHeartbeats 400000 in
theorem many_any (w : World) (base B q cap : Nat) (T : List Gp) (h : TrAt w base B q cap T) (hne : T ≠ []) (hl : T.length ≤ 16) :
    Calls Try.prog 18 #[.pointer (some ⟨B, 0, none⟩)] w fun e w' => e = .returned (.int .i64 T.length) ∧ w = w' := by
  have hN := callsIn_wide.1 (none_in Fence.wide 10 trivial rfl w base B q cap T h hne hl)
  have c0 := h.blk.cell (i := 0) rfl
  simp at c0
  clear h
  go_enter Try.func18, Try.ntmps18
  go_wp2_with fail
  refine hN.mono ?_
  rintro e w1 ⟨rfl, rfl⟩
  clear hN
  go_wp2_with fail
  go_ret
  exact ⟨rfl, rfl⟩
end Go.Proofs.Ytkkjnnmjfamkjaa
