/- The reference's tree: what its methods read. -/
import Derived.Test.YtkkjnnmjfamkjaaE
namespace Go.Proofs.Ytkkjnnmjfamkjaa
open Go.RowKit Go.Shelf

def upL (T : List Gp) : List Value := .int .i64 0 :: T.map (fun x => .int .i64 x.1)
def onL (T : List Gp) : List Value := .bool false :: T.map (fun x => .bool (!x.2.2))
/-- the reference's tree at R, its rows in blocks u and o -/
structure RfC (w : World) (base R u cu o co : Nat) (T : List Gp) : Prop where
  blk : Blk w R #[.slice (some ⟨u, 0, none⟩) (T.length + 1) cu, .slice (some ⟨o, 0, none⟩) (T.length + 1) co] 54
  up : w.ownsRow base 3 1 (.slice (some ⟨u, 0, none⟩) (T.length + 1) cu) (T.length + 1) (upL T)
  on : w.ownsRow base 4 1 (.slice (some ⟨o, 0, none⟩) (T.length + 1) co) (T.length + 1) (onL T)
structure Rf (w : World) (base R : Nat) (T : List Gp) : Prop where
  hb : base ≤ R
  wf : WfT T
  at' : ∃ u cu o co, RfC w base R u cu o co T
theorem RfC.keep {w w' : World} {base R u cu o co : Nat} {T : List Gp} (h : RfC w base R u cu o co T) {ts : List TypeId} (hk : KeepT ts w w') (h1 : 54 ∉ ts) (h2 : 3 ∉ ts) (h3 : 4 ∉ ts) : RfC w' base R u cu o co T :=
  ⟨hk.blk h.blk h1, hk.owns h.up h2, hk.owns h.on h3⟩
theorem Rf.keep {w w' : World} {base R : Nat} {T : List Gp} (h : Rf w base R T) {ts : List TypeId} (hk : KeepT ts w w') (h1 : 54 ∉ ts) (h2 : 3 ∉ ts) (h3 : 4 ∉ ts) : Rf w' base R T :=
  ⟨h.hb, h.wf, by obtain ⟨u, cu, o, co, ht⟩ := h.at'; exact ⟨u, cu, o, co, ht.keep hk h1 h2 h3⟩⟩
theorem Rf.below {w w' : World} {base R : Nat} {T : List Gp} (h : Rf w base R T) (hb : Below w.heap.size w w') : Rf w' base R T := h.keep (ts := []) (KeepT.below hb) (by simp) (by simp) (by simp)
theorem RfC.below {w w' : World} {base R u cu o co : Nat} {T : List Gp} (h : RfC w base R u cu o co T) (hb : Below w.heap.size w w') : RfC w' base R u cu o co T := h.keep (ts := []) (KeepT.below hb) (by simp) (by simp) (by simp)
theorem list_at {T : List Gp} {g : Int} {x : Gp} (hg : gAt T g = some x) {α : Type} (a : α) (f : Gp → α) : (a :: T.map f)[g.toNat]? = some (f x) := by
  obtain ⟨h1, h2, h3⟩ := gAt_lt hg
  obtain ⟨k, hk⟩ : ∃ k, g.toNat = k + 1 := ⟨g.toNat - 1, by omega⟩
  rw [hk, List.getElem?_cons_succ, List.getElem?_map]
  rw [show (g - 1).toNat = k by omega] at h3
  rw [h3]; rfl
theorem RfC.upAt {w : World} {base R u cu o co : Nat} {T : List Gp} (h : RfC w base R u cu o co T) {g : Int} {x : Gp} (hg : gAt T g = some x) : w.cell? ⟨u, g.toNat, none⟩ = some (.int .i64 x.1) := by
  have h3 := gAt_lt hg
  rw [h.up.cellAt _ (by omega)]
  exact list_at hg (Value.int .i64 0) (fun x => .int .i64 x.1)
theorem RfC.onAt {w : World} {base R u cu o co : Nat} {T : List Gp} (h : RfC w base R u cu o co T) {g : Int} {x : Gp} (hg : gAt T g = some x) : w.cell? ⟨o, g.toNat, none⟩ = some (.bool (!x.2.2)) := by
  have h3 := gAt_lt hg
  rw [h.on.cellAt _ (by omega)]
  exact list_at hg (Value.bool false) (fun x => .bool (!x.2.2))
theorem RfC.cells {w : World} {base R u cu o co : Nat} {T : List Gp} (h : RfC w base R u cu o co T) : w.cell? ⟨R, 0, none⟩ = some (.slice (some ⟨u, 0, none⟩) (T.length + 1) cu) ∧ w.cell? ⟨R, 1, none⟩ = some (.slice (some ⟨o, 0, none⟩) (T.length + 1) co) :=
  ⟨by simpa using h.blk.cell (i := 0) rfl, by simpa using h.blk.cell (i := 1) rfl⟩
/-- is there group g? -/
def hasT (T : List Gp) (g : Int) : Bool := (gAt T g).isSome
set_option maxRecDepth 100000 in
set_option maxHeartbeats 400000 in
theorem rhas_any (w : World) (base R u cu o co : Nat) (T : List Gp) (g : Int) (h : RfC w base R u cu o co T) (hl : T.length ≤ 16) :
    Calls Try.prog 27 #[.pointer (some ⟨R, 0, none⟩), .int .i64 g] w fun e w' => e = .returned (.bool (hasT T g)) ∧ w = w' := by
  obtain ⟨c0, c1⟩ := h.cells
  have HR := Lib.hid (show hasT T g = (decide (1 ≤ g) && decide (g < (T.length : Int) + 1)) by
    unfold hasT
    cases hg : gAt T g with
    | none => have := gAt_none hg; simp; omega
    | some x => have := gAt_lt hg; simp; omega)
  clear h
  by_cases h1 : 1 ≤ g
  · have hd : decide (1 ≤ g) = true := by simpa using h1
    go_enter Try.func27, Try.ntmps27
    go_wp2_with fail
    go_ret
    refine ⟨retB ?_, rfl⟩
    rw [HR.out]; simp [h1]
  · have hd : decide (1 ≤ g) = false := by simpa using h1
    go_enter Try.func27, Try.ntmps27
    go_wp2_with fail
    go_ret
    refine ⟨retB ?_, rfl⟩
    rw [HR.out, hd]; simp
set_option maxRecDepth 100000 in
set_option maxHeartbeats 400000 in
theorem rmany_any (w : World) (base R u cu o co : Nat) (T : List Gp) (h : RfC w base R u cu o co T) (hl : T.length ≤ 16) :
    Calls Try.prog 28 #[.pointer (some ⟨R, 0, none⟩)] w fun e w' => e = .returned (.int .i64 T.length) ∧ w = w' := by
  obtain ⟨c0, c1⟩ := h.cells
  clear h
  go_enter Try.func28, Try.ntmps28
  go_wp2_with fail
  go_ret
  exact ⟨ret1 (by simp), rfl⟩
set_option maxRecDepth 100000 in
set_option maxHeartbeats 400000 in
theorem rparent_any (w : World) (base R u cu o co : Nat) (T : List Gp) (g : Int) (h : RfC w base R u cu o co T) (hl : T.length ≤ 16) :
    Calls Try.prog 30 #[.pointer (some ⟨R, 0, none⟩), .int .i64 g] w fun e w' => e = .returned (.int .i64 (parentT T g)) ∧ w = w' := by
  obtain ⟨c0, c1⟩ := h.cells
  have hh := rhas_any w base R u cu o co T g h hl
  unfold hasT at hh
  cases hg : gAt T g with
  | none =>
    have HR := Lib.hid (show parentT T g = 0 by unfold parentT; rw [hg])
    rw [hg] at hh
    clear h hg
    go_enter Try.func30, Try.ntmps30
    go_wp2_with fail
    refine hh.mono ?_
    rintro e w1 ⟨rfl, rfl⟩
    clear hh
    go_wp2_with fail
    go_ret
    exact ⟨ret1 HR.out.symm, rfl⟩
  | some x =>
    have HR := Lib.hid (show parentT T g = x.1 by unfold parentT; rw [hg])
    have c2 := h.upAt hg
    have hb := gAt_lt hg
    have i0 : 0 ≤ g := by omega
    have i1 : g < (T.length : Int) + 1 := by omega
    rw [hg] at hh
    clear h hg hb
    go_enter Try.func30, Try.ntmps30
    go_wp2_with fail
    refine hh.mono ?_
    rintro e w1 ⟨rfl, rfl⟩
    clear hh
    go_wp2_with fail
    go_ret
    exact ⟨ret1 HR.out.symm, rfl⟩
set_option maxRecDepth 100000 in
set_option maxHeartbeats 400000 in
theorem ronline_any (w : World) (base R u cu o co : Nat) (T : List Gp) (g : Int) (h : RfC w base R u cu o co T) (hl : T.length ≤ 16) :
    Calls Try.prog 31 #[.pointer (some ⟨R, 0, none⟩), .int .i64 g] w fun e w' => e = .returned (.bool (onT T g)) ∧ w = w' := by
  obtain ⟨c0, c1⟩ := h.cells
  have hh := rhas_any w base R u cu o co T g h hl
  unfold hasT at hh
  cases hg : gAt T g with
  | none =>
    have HR := Lib.hid (show onT T g = false by unfold onT; rw [hg])
    rw [hg] at hh
    clear h hg
    go_enter Try.func31, Try.ntmps31
    go_wp2_with fail
    refine hh.mono ?_
    rintro e w1 ⟨rfl, rfl⟩
    clear hh
    go_wp2_with fail
    go_ret
    exact ⟨retB HR.out.symm, rfl⟩
  | some x =>
    have HR := Lib.hid (show onT T g = !x.2.2 by unfold onT; rw [hg])
    have c2 := h.onAt hg
    have hb := gAt_lt hg
    have i0 : 0 ≤ g := by omega
    have i1 : g < (T.length : Int) + 1 := by omega
    rw [hg] at hh
    clear h hg hb
    go_enter Try.func31, Try.ntmps31
    go_wp2_with fail
    refine hh.mono ?_
    rintro e w1 ⟨rfl, rfl⟩
    clear hh
    go_wp2_with fail
    go_ret
    exact ⟨retB HR.out.symm, rfl⟩
set_option maxRecDepth 100000 in
set_option maxHeartbeats 1000000 in
theorem rpath_any (w : World) (base R u cu o co : Nat) (T : List Gp) (g : Int) (h : RfC w base R u cu o co T) (wf : WfT T) (hg0 : IsI g) :
    Calls Try.prog 34 #[.pointer (some ⟨R, 0, none⟩), .int .i64 g] w fun e W' => ∃ v, e = .returned v ∧ W'.ownsRow w.heap.size 3 1 v (path T g).length ((path T g).map encI) ∧ Below w.heap.size w W' := by
  have hl := wf.le
  have PL := Lib.hid (path_len wf g)
  have H := Lib.hid h
  have WF := Lib.hid wf
  obtain ⟨i0, hi, hz0, hz1, hz2⟩ := info_parts info3
  clear h wf
  go_enter Try.func34, Try.ntmps34
  go_wp2_with fail
  go_loopw [5, 1] (fun v gv wr => ∃ (pre : List Int) (g1 : Int), gv = .int .i64 g1 ∧ path T g = pre ++ path T g1 ∧ wr.ownsRow w.heap.size 3 1 v pre.length (pre.map encI) ∧ Below w.heap.size w wr) (fun _ gv _ => (intOf gv).toNat)
  case atStart => exact ⟨[], g, rfl, rfl, World.ownsRow_nil _ _ _ _, Below.refl _ _⟩
  case round =>
    obtain ⟨pre, g1, rfl, hpa, hown, hB⟩ := hrel
    rename_i wr
    have HB := Lib.hid hB
    have OW := Lib.hid hown
    have HR := Lib.hid (H.out.below hB)
    have hh := rhas_any wr base R u cu o co T g1 HR.out hl
    unfold hasT at hh
    cases hg : gAt T g1 with
    | none =>
      have HP := Lib.hid (show path T g = pre by rw [hpa, WfT.path_none hg, List.append_nil])
      rw [hg] at hh
      clear hpa hg hown hB
      go_wp2_with fail
      refine hh.mono ?_
      rintro e w1 ⟨rfl, rfl⟩
      clear hh
      go_wp2_with fail
      go_ret
      exact ⟨_, rfl, by rw [HP.out]; exact OW.out, HB.out⟩
    | some x =>
      have HP := Lib.hid (show path T g = (pre ++ [g1]) ++ path T x.1 by rw [hpa, WF.out.path_some hg]; simp)
      have hlen : pre.length < 8 := by have := PL.out; rw [HP.out] at this; simp at this; omega
      have hb := gAt_lt hg
      have hp := WF.out.parent hg
      have j0 : 0 ≤ g1 := by omega
      have j1 : g1 < (T.length : Int) + 1 := by omega
      have HG := Lib.hid hg
      have hsz := hB.size
      rw [hg] at hh
      clear hpa hg hown hb hB
      go_wp2_with fail
      refine hh.mono ?_
      rintro e w1 ⟨rfl, rfl⟩
      clear hh
      go_wp2_with (at_builtin; refine wpList_append_own _ rfl _ _ 39 rfl w.heap.size 3 i0 _ 1 8 Try.underlying39 hi hz0 hz1 hz2 rfl (by omega) _ _ _ rfl (OW.out.alloc _) ⟨wr.heap.size, 0, none⟩ 1 1 [encI g1] rfl rfl (cell_one_new _ _ _) (by simp [Value.oneCell', encI]) (by unfold maxLen; omega) (by omega) (by simp; omega) ?_; intro v' w1 hown' hgrow _; have hB1 : Below w.heap.size w w1 := (HB.out.alloc hsz _).grown hgrow (by simp; omega) (fun g e => (OW.out.lt g e).1); have c0 := (H.out.below hB1).cells.1; have c2 := (H.out.below hB1).upAt HG.out; have HB1 := Lib.hid hB1; have OW1 := Lib.hid hown'; clear hB1 hown' hgrow)
      go_roundw
      case rel => exact ⟨pre ++ [g1], x.1, rfl, HP.out, by simpa using OW1.out, HB1.out⟩
      case measure => simp [intOf]; omega
/-- the length of a path is the depth -/
theorem path_depth {T : List Gp} (wf : WfT T) (g : Int) : ((path T g).length : Int) = depthT T g := by
  unfold depthT
  cases hg : gAt T g with
  | none => rw [WfT.path_none hg]; rfl
  | some x => exact wf.depth g.toNat g x (by omega) hg
set_option maxRecDepth 100000 in
set_option maxHeartbeats 400000 in
theorem rdepth_any (w : World) (base R u cu o co : Nat) (T : List Gp) (g : Int) (h : RfC w base R u cu o co T) (wf : WfT T) (hg0 : IsI g) :
    Calls Try.prog 29 #[.pointer (some ⟨R, 0, none⟩), .int .i64 g] w fun e W' => e = .returned (.int .i64 (depthT T g)) ∧ Below w.heap.size w W' := by
  have hp := rpath_any w base R u cu o co T g h wf hg0
  have HD := Lib.hid (path_depth wf g)
  clear h wf
  go_enter Try.func29, Try.ntmps29
  go_wp2_with fail
  refine hp.mono ?_
  rintro e w1 ⟨v, rfl, hv, hb⟩
  obtain ⟨a, cap, rfl, h1, h2⟩ := owns_form hv
  unfold maxLen at h2
  clear hp hv
  go_wp2_with fail
  go_ret
  exact ⟨ret1 HD.out, hb⟩
set_option maxRecDepth 100000 in
set_option maxHeartbeats 1000000 in
theorem rbelow_any (w : World) (base R u cu o co : Nat) (T : List Gp) (g top : Int) (h : RfC w base R u cu o co T) (wf : WfT T) (hg0 : IsI g) :
    Calls Try.prog 35 #[.pointer (some ⟨R, 0, none⟩), .int .i64 g, .int .i64 top] w fun e W' => e = .returned (.bool (belowT T g top)) ∧ Below w.heap.size w W' := by
  have hp := rpath_any w base R u cu o co T g h wf hg0
  have PL := Lib.hid (path_len wf g)
  clear h wf
  go_enter Try.func35, Try.ntmps35
  go_wp2_with fail
  refine hp.mono ?_
  rintro e w1 ⟨v, rfl, hv, hb⟩
  obtain ⟨a, cap, rfl, h1, -⟩ := isSl_of_owns (α := Int) hv
  have S := Lib.hid h1
  have hlen : (path T g).length ≤ 8 := PL.out
  clear hp hv h1
  go_wp2_with fail
  go_loop [8] (fun i => ∃ k : Nat, k ≤ (path T g).length ∧ i = .int .i64 k ∧ ∀ z ∈ (path T g).take k, z ≠ top) (fun i => (path T g).length - (intOf i).toNat)
  case atStart => exact ⟨0, Nat.zero_le _, rfl, by simp⟩
  case round =>
    obtain ⟨k, hk, rfl, hall⟩ := hrel
    have HA := Lib.hid hall
    clear hall
    by_cases hlt : k < (path T g).length
    · obtain ⟨b, off, x, rfl, hxk, hc⟩ := S.out.at hlt
      have HT := Lib.hid (take_succ hxk)
      have HX := Lib.hid hxk
      clear hxk
      by_cases hx : x = top
      · have hbq : (x == top) = true := by simpa using hx
        have HE := Lib.hid (show belowT T g top = true from below_hit (List.take_prefix (k + 1) _) (by rw [HT.out]; simp [hx]))
        clear hx
        go_wp2_with fail
        go_ret
        exact ⟨retB HE.out.symm, hb⟩
      · have hbq : (x == top) = false := by simpa using hx
        have HE := Lib.hid hx
        clear hx
        go_wp2_with fail
        go_round
        case rel => exact ⟨k + 1, by omega, by go_num, fun z hz => by rw [HT.out] at hz; rcases List.mem_append.1 hz with h | h; exact HA.out z h; simp at h; rw [h]; exact HE.out⟩
        case measure => simp [intOf]; omega
    · have HE := Lib.hid (show belowT T g top = false from below_none (by have := HA.out; rwa [List.take_of_length_le (by omega)] at this))
      go_wp2_with fail
      go_ret
      exact ⟨retB HE.out.symm, hb⟩
theorem heir_step {T : List Gp} (wf : WfT T) {g : Int} {x : Gp} (hg : gAt T g = some x) : heirT T g = if x.2.2 then heirT T x.1 else g := by
  unfold heirT
  rw [wf.path_some hg, List.find?_cons]
  have : onT T g = !x.2.2 := by unfold onT; rw [hg]
  rw [this]
  cases x.2.2 <;> rfl
theorem heir_no {T : List Gp} {g : Int} (hg : gAt T g = none) : heirT T g = 0 := by unfold heirT; rw [WfT.path_none hg]; rfl
set_option maxRecDepth 100000 in
set_option maxHeartbeats 1000000 in
theorem rheir_any (w : World) (base R u cu o co : Nat) (T : List Gp) (g : Int) (h : RfC w base R u cu o co T) (wf : WfT T) :
    Calls Try.prog 32 #[.pointer (some ⟨R, 0, none⟩), .int .i64 g] w fun e W' => e = .returned (.int .i64 (heirT T g)) ∧ w = W' := by
  have hl := wf.le
  obtain ⟨c0, c1⟩ := h.cells
  have H := Lib.hid h
  have WF := Lib.hid wf
  clear h wf
  go_enter Try.func32, Try.ntmps32
  go_wp2_with fail
  go_loop [1] (fun gv => ∃ g1 : Int, gv = .int .i64 g1 ∧ heirT T g = heirT T g1) (fun gv => (intOf gv).toNat)
  case atStart => exact ⟨g, rfl, rfl⟩
  case round =>
    obtain ⟨g1, rfl, heq⟩ := hrel
    have hh := rhas_any w base R u cu o co T g1 H.out hl
    unfold hasT at hh
    cases hg : gAt T g1 with
    | none =>
      have HP := Lib.hid (show heirT T g = 0 by rw [heq, heir_no hg])
      rw [hg] at hh
      clear heq hg
      go_wp2_with fail
      refine hh.mono ?_
      rintro e w1 ⟨rfl, rfl⟩
      go_wp2_with fail
      refine hh.mono ?_
      rintro e w1 ⟨rfl, rfl⟩
      clear hh
      go_wp2_with fail
      go_ret
      exact ⟨ret1 HP.out.symm, rfl⟩
    | some x =>
      have hb := gAt_lt hg
      have hp := WF.out.parent hg
      have j0 : 0 ≤ g1 := by omega
      have j1 : g1 < (T.length : Int) + 1 := by omega
      have c2 := H.out.upAt hg
      have c3 := H.out.onAt hg
      have hs := heir_step WF.out hg
      rw [hg] at hh
      obtain ⟨px, dx, ox⟩ := x
      cases ox with
      | true =>
        have HS := Lib.hid (show heirT T g = heirT T px by rw [heq, hs]; rfl)
        clear heq hs hg hb
        go_wp2_with fail
        refine hh.mono ?_
        rintro e w1 ⟨rfl, rfl⟩
        clear hh
        go_wp2_with fail
        go_round
        case rel => exact ⟨px, rfl, HS.out⟩
        case measure => simp [intOf]; omega
      | false =>
        have HS := Lib.hid (show heirT T g = g1 by rw [heq, hs]; rfl)
        clear heq hs hg hb
        go_wp2_with fail
        refine hh.mono ?_
        rintro e w1 ⟨rfl, rfl⟩
        go_wp2_with fail
        refine hh.mono ?_
        rintro e w1 ⟨rfl, rfl⟩
        clear hh
        go_wp2_with fail
        go_ret
        exact ⟨ret1 HS.out.symm, rfl⟩
end Go.Proofs.Ytkkjnnmjfamkjaa
