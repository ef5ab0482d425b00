/- The methods over a tree of known shape; works. -/
import Derived.Test.YtkkjnnmjfamkjaaEQ
namespace Go.Proofs.Ytkkjnnmjfamkjaa
open Go.RowKit Go.Shelf

attribute [local go_sem ↓] Go.wp_at_zero Go.wp_at_succ
section
variable {w : World} {base B R : Nat} {T : List Gp}
theorem add_at {T' : List Gp} {a e : Int} (h : Tr w base B T) {p : Int} (he : addT T p = (a, e, T')) : Calls Try.prog 11 #[.pointer (some ⟨B, 0, none⟩), .int .i64 p] w fun e' w' => e' = .returned (.tuple #[.int .i64 a, .int .i64 e]) ∧ Tr w' base B T' ∧ Step [49, 51] base w w' := by
  have := add_any w base B T p h; rwa [he] at this
theorem off_at {T' : List Gp} {e : Int} (h : Tr w base B T) {p : Int} (he : offT T p = (e, T')) : Calls Try.prog 13 #[.pointer (some ⟨B, 0, none⟩), .int .i64 p] w fun e' w' => e' = .returned (.int .i64 e) ∧ Tr w' base B T' ∧ Step [49, 51] base w w' := by
  have := off_any w base B T p h; rwa [he] at this
theorem path_at {l : List Int} (h : Tr w base B T) {p : Int} (he : path T p = l) : Calls Try.prog 19 #[.pointer (some ⟨B, 0, none⟩), .int .i64 p] w fun e' w' => ∃ a cap, e' = .returned (.slice a l.length cap) ∧ w'.ownsRow w.heap.size 3 1 (.slice a l.length cap) l.length (l.map encI) ∧ IsSl encI w' a l ∧ Below w.heap.size w w' := by
  obtain ⟨_, wf, q, cap, ht⟩ := h
  refine (path_any w base B q cap T p ht wf).mono ?_
  rintro e w1 ⟨v, rfl, hv, hb⟩
  rw [he] at hv
  obtain ⟨a, cap, rfl, h1, -⟩ := isSl_of_owns (α := Int) hv
  exact ⟨a, cap, rfl, hv, h1, hb⟩
theorem depth_at {x : Int} (h : Tr w base B T) {p : Int} (he : depthT T p = x) : Calls Try.prog 20 #[.pointer (some ⟨B, 0, none⟩), .int .i64 p] w fun e' w' => e' = .returned (.int .i64 x) ∧ w = w' := by
  obtain ⟨_, wf, q, cap, ht⟩ := h
  have := depth_any w base B q cap T p ht wf.ne wf.le; rwa [he] at this
theorem parent_at {x : Int} (h : Tr w base B T) {p : Int} (he : parentT T p = x) : Calls Try.prog 21 #[.pointer (some ⟨B, 0, none⟩), .int .i64 p] w fun e' w' => e' = .returned (.int .i64 x) ∧ w = w' := by
  obtain ⟨_, wf, q, cap, ht⟩ := h
  have := parent_any w base B q cap T p ht wf.ne wf.le; rwa [he] at this
theorem online_at {x : Bool} (h : Tr w base B T) {p : Int} (he : onT T p = x) : Calls Try.prog 24 #[.pointer (some ⟨B, 0, none⟩), .int .i64 p] w fun e' w' => e' = .returned (.bool x) ∧ w = w' := by
  obtain ⟨_, wf, q, cap, ht⟩ := h
  have := online_any w base B q cap T p ht wf.ne wf.le; rwa [he] at this
theorem many_at {x : Nat} (h : Tr w base B T) (he : T.length = x) : Calls Try.prog 18 #[.pointer (some ⟨B, 0, none⟩)] w fun e' w' => e' = .returned (.int .i64 x) ∧ w = w' := by
  obtain ⟨_, wf, q, cap, ht⟩ := h
  have := many_any w base B q cap T ht wf.ne wf.le; rwa [he] at this
theorem heir_at {x : Int} (h : Tr w base B T) {p : Int} (he : heirT T p = x) : Calls Try.prog 23 #[.pointer (some ⟨B, 0, none⟩), .int .i64 p] w fun e' w' => e' = .returned (.int .i64 x) ∧ Below w.heap.size w w' := by
  obtain ⟨_, wf, q, cap, ht⟩ := h
  have := heir_any w base B q cap T p ht wf; rwa [he] at this
theorem below_at {x : Bool} (h : Tr w base B T) {p t : Int} (he : belowT T p t = x) : Calls Try.prog 22 #[.pointer (some ⟨B, 0, none⟩), .int .i64 p, .int .i64 t] w fun e' w' => e' = .returned (.bool x) ∧ Below w.heap.size w w' := by
  obtain ⟨_, wf, q, cap, ht⟩ := h
  have := below_any w base B q cap T p t ht wf; rwa [he] at this
theorem rpath_at {l : List Int} (h : Rf w base R T) {p : Int} (hp : IsI p) (he : path T p = l) : Calls Try.prog 34 #[.pointer (some ⟨R, 0, none⟩), .int .i64 p] w fun e' w' => ∃ a cap, e' = .returned (.slice a l.length cap) ∧ IsSl encI w' a l ∧ Below w.heap.size w w' := by
  obtain ⟨_, wf, u, cu, o, co, ht⟩ := h
  refine (rpath_any w base R u cu o co T p ht wf hp).mono ?_
  rintro e w1 ⟨v, rfl, hv, hb⟩
  rw [he] at hv
  obtain ⟨a, cap, rfl, h1, -⟩ := isSl_of_owns (α := Int) hv
  exact ⟨a, cap, rfl, h1, hb⟩
theorem rdepth_at {x : Int} (h : Rf w base R T) {p : Int} (hp : IsI p) (he : depthT T p = x) : Calls Try.prog 29 #[.pointer (some ⟨R, 0, none⟩), .int .i64 p] w fun e' w' => e' = .returned (.int .i64 x) ∧ Below w.heap.size w w' := by
  obtain ⟨_, wf, u, cu, o, co, ht⟩ := h
  have := rdepth_any w base R u cu o co T p ht wf hp; rwa [he] at this
theorem rparent_at {x : Int} (h : Rf w base R T) {p : Int} (he : parentT T p = x) : Calls Try.prog 30 #[.pointer (some ⟨R, 0, none⟩), .int .i64 p] w fun e' w' => e' = .returned (.int .i64 x) ∧ w = w' := by
  obtain ⟨_, wf, u, cu, o, co, ht⟩ := h
  have := rparent_any w base R u cu o co T p ht wf.le; rwa [he] at this
theorem ronline_at {x : Bool} (h : Rf w base R T) {p : Int} (he : onT T p = x) : Calls Try.prog 31 #[.pointer (some ⟨R, 0, none⟩), .int .i64 p] w fun e' w' => e' = .returned (.bool x) ∧ w = w' := by
  obtain ⟨_, wf, u, cu, o, co, ht⟩ := h
  have := ronline_any w base R u cu o co T p ht wf.le; rwa [he] at this
theorem rmany_at {x : Nat} (h : Rf w base R T) (he : T.length = x) : Calls Try.prog 28 #[.pointer (some ⟨R, 0, none⟩)] w fun e' w' => e' = .returned (.int .i64 x) ∧ w = w' := by
  obtain ⟨_, wf, u, cu, o, co, ht⟩ := h
  have := rmany_any w base R u cu o co T ht wf.le; rwa [he] at this
theorem rheir_at {x : Int} (h : Rf w base R T) {p : Int} (he : heirT T p = x) : Calls Try.prog 32 #[.pointer (some ⟨R, 0, none⟩), .int .i64 p] w fun e' w' => e' = .returned (.int .i64 x) ∧ w = w' := by
  obtain ⟨_, wf, u, cu, o, co, ht⟩ := h
  have := rheir_any w base R u cu o co T p ht wf; rwa [he] at this
theorem rbelow_at {x : Bool} (h : Rf w base R T) {p t : Int} (hp : IsI p) (he : belowT T p t = x) : Calls Try.prog 35 #[.pointer (some ⟨R, 0, none⟩), .int .i64 p, .int .i64 t] w fun e' w' => e' = .returned (.bool x) ∧ Below w.heap.size w w' := by
  obtain ⟨_, wf, u, cu, o, co, ht⟩ := h
  have := rbelow_any w base R u cu o co T p t ht wf hp; rwa [he] at this
end
def tA : List Gp := [(0, 1, false), (1, 2, false)]
def tB : List Gp := [(0, 1, false), (1, 2, false), (2, 3, false)]
def tC : List Gp := [(0, 1, false), (1, 2, true), (2, 3, false)]
def tD : List Gp := [(0, 1, false), (1, 2, true), (2, 3, true)]
set_option maxRecDepth 100000 in
set_option maxHeartbeats 1000000 in
theorem works_any (w : World) : Calls Try.prog 16 #[] w fun e w' => e = .returned (.bool true) ∧ Below w.heap.size w w' := by
  have e1 : addT newT 1 = (2, 0, tA) := by decide
  have e2 : addT tA 2 = (3, 0, tB) := by decide
  have e3 : path tB 3 = [3, 2, 1] := by decide
  have e4 : depthT tB 3 = 3 := by decide
  have e5 : offT tB 2 = (0, tC) := by decide
  have e6 : heirT tC 3 = 3 := by decide
  have e7 : offT tC 3 = (0, tD) := by decide
  have e8 : heirT tD 3 = 1 := by decide
  have e9 : addT tD 3 = (0, 110, tD) := by decide
  have e10 : offT tD 1 = (292, tD) := by decide
  have e11 : offT tD 2 = (292, tD) := by decide
  have e12 : belowT tD 3 2 = true := by decide
  have e13 : parentT tD 1 = 0 := by decide
  have E := Lib.hid (And.intro e1 (And.intro e2 (And.intro e3 (And.intro e4 (And.intro e5 (And.intro e6 (And.intro e7 (And.intro e8 (And.intro e9 (And.intro e10 (And.intro e11 (And.intro e12 e13))))))))))))
  clear e1 e2 e3 e4 e5 e6 e7 e8 e9 e10 e11 e12 e13
  go_enter Try.func16, Try.ntmps16
  go_wp2_with fail
  refine (new_any w w.heap.size (Nat.le_refl _)).mono ?_
  rintro e w1 ⟨B, rfl, hT, hb⟩
  have TT := Lib.hid hT
  have BB := Lib.hid hb
  clear hT hb
  go_wp2_with fail
  refine (add_at TT.out E.out.1).mono ?_
  rintro e wz ⟨rfl, hT, hS⟩
  replace TT := Lib.hid hT
  replace BB := Lib.hid (BB.out.trans hS.b)
  clear hT hS
  go_wp2_with fail
  refine (add_at TT.out E.out.2.1).mono ?_
  rintro e wz ⟨rfl, hT, hS⟩
  replace TT := Lib.hid hT
  replace BB := Lib.hid (BB.out.trans hS.b)
  clear hT hS
  go_wp2_with fail
  refine (path_at TT.out E.out.2.2.1).mono ?_
  rintro e w4 ⟨a, cap, rfl, -, h1, hb⟩
  replace TT := Lib.hid (TT.out.below hb)
  replace BB := Lib.hid (on BB.out hb)
  have S1 := Lib.hid h1
  clear h1 hb
  go_wp2_with fail
  have S2 := Lib.hid (isSl_lit (enc := encI) (w := w4) (t := 3) (xs := [3, 2, 1]) (by simp) (cs := #[.int .i64 3, .int .i64 2, .int .i64 1]) rfl)
  have hb : Below w4.heap.size w4 (w4.alloc (.cells #[.int .i64 3, .int .i64 2, .int .i64 1] 3)) := (by repeat (first | exact Below.refl _ _ | assumption | refine Below.setCell ?_ (by first | omega | (simp; done) | (simp; omega)) _ | refine Below.drew ?_ | refine Below.alloc ?_ (by first | omega | (simp; done) | (simp; omega)) _ | refine Below.trans ?_ (Below.mono (by assumption) (by first | omega | (simp; done) | (simp; omega)))))
  replace TT := Lib.hid (TT.out.below hb)
  replace BB := Lib.hid (on BB.out hb)
  replace S1 := Lib.hid (S1.out.below hb)
  clear hb
  generalize w4.alloc (.cells #[.int .i64 3, .int .i64 2, .int .i64 1] 3) = w5 at *
  refine (eqints_at [3, 2, 1] [3, 2, 1] true _ _ _ _ _ _ _ rfl rfl (by decide) S1.out S2.out).mono ?_
  rintro e wz ⟨rfl, hb⟩
  replace TT := Lib.hid (TT.out.below hb)
  replace BB := Lib.hid (on BB.out hb)
  clear hb
  go_wp2_with fail
  refine (depth_at TT.out E.out.2.2.2.1).mono ?_
  rintro e wz ⟨rfl, rfl⟩
  go_wp2_with fail
  refine (off_at TT.out E.out.2.2.2.2.1).mono ?_
  rintro e wz ⟨rfl, hT, hS⟩
  replace TT := Lib.hid hT
  replace BB := Lib.hid (BB.out.trans hS.b)
  clear hT hS
  go_wp2_with fail
  refine (heir_at TT.out E.out.2.2.2.2.2.1).mono ?_
  rintro e wz ⟨rfl, hb⟩
  replace TT := Lib.hid (TT.out.below hb)
  replace BB := Lib.hid (on BB.out hb)
  clear hb
  go_wp2_with fail
  refine (off_at TT.out E.out.2.2.2.2.2.2.1).mono ?_
  rintro e wz ⟨rfl, hT, hS⟩
  replace TT := Lib.hid hT
  replace BB := Lib.hid (BB.out.trans hS.b)
  clear hT hS
  go_wp2_with fail
  refine (heir_at TT.out E.out.2.2.2.2.2.2.2.1).mono ?_
  rintro e wz ⟨rfl, hb⟩
  replace TT := Lib.hid (TT.out.below hb)
  replace BB := Lib.hid (on BB.out hb)
  clear hb
  go_wp2_with fail
  refine (add_at TT.out E.out.2.2.2.2.2.2.2.2.1).mono ?_
  rintro e wz ⟨rfl, hT, hS⟩
  replace TT := Lib.hid hT
  replace BB := Lib.hid (BB.out.trans hS.b)
  clear hT hS
  go_wp2_with fail
  refine (off_at TT.out E.out.2.2.2.2.2.2.2.2.2.1).mono ?_
  rintro e wz ⟨rfl, hT, hS⟩
  replace TT := Lib.hid hT
  replace BB := Lib.hid (BB.out.trans hS.b)
  clear hT hS
  go_wp2_with fail
  refine (off_at TT.out E.out.2.2.2.2.2.2.2.2.2.2.1).mono ?_
  rintro e wz ⟨rfl, hT, hS⟩
  replace TT := Lib.hid hT
  replace BB := Lib.hid (BB.out.trans hS.b)
  clear hT hS
  go_wp2_with fail
  refine (below_at TT.out E.out.2.2.2.2.2.2.2.2.2.2.2.1).mono ?_
  rintro e wz ⟨rfl, hb⟩
  replace TT := Lib.hid (TT.out.below hb)
  replace BB := Lib.hid (on BB.out hb)
  clear hb
  go_wp2_with fail
  refine (parent_at TT.out E.out.2.2.2.2.2.2.2.2.2.2.2.2).mono ?_
  rintro e wz ⟨rfl, rfl⟩
  go_wp2_with fail
  go_ret
  exact ⟨rfl, BB.out⟩
end Go.Proofs.Ytkkjnnmjfamkjaa
