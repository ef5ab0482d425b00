/- The walks over the laws of sizes. -/
import Derived.Test.YtpbnbfkpngaipaaB
namespace Go.Proofs.Ytpbnbfkpngaipaa
open Go.RowKit

set_option maxHeartbeats 400000 in
theorem cl_true (n want er : Int) (w : World) (h1 : cA n = want) (h2 : cE n = er) :
    Calls Try.prog 20 #[.int .i64 n, .int .i64 want, .int .i64 er] w fun e w' => e = .returned (.bool true) ∧ Below w.heap.size w w' := by
  subst h1 h2
  go_enter Try.func20, Try.ntmps20
  go_wp2_with fail
  refine (class_any n _).mono ?_
  rintro e w1 ⟨rfl, hb⟩
  go_wp2_with fail
  go_ret
  exact ⟨by simp, (by repeat (first | exact Below.refl _ _ | assumption | refine Below.setCell ?_ (by first | omega | (simp; done) | (simp; omega)) _ | refine Below.drew ?_ | refine Below.alloc ?_ (by first | omega | (simp; done) | (simp; omega)) _ | refine Below.trans ?_ (Below.mono (by assumption) (by first | omega | (simp; done) | (simp; omega)))))⟩

theorem size_at (n a er : Int) (w : World) (h1 : sA n = a) (h2 : sE n = er) :
    Calls Try.prog 9 #[.int .i64 n] w fun e w' => e = .returned (.tuple #[.int .i64 a, .int .i64 er]) ∧ Below w.heap.size w w' := by
  subst h1 h2; exact size_any n w
theorem spec_at (n a b c er : Int) (w : World) (h1 : sA n = a) (h2 : pA n = b) (h3 : pF n = c) (h4 : sE n = er) :
    Calls Try.prog 11 #[.int .i64 n] w fun e w' => e = .returned (.tuple #[.agg #[.int .i64 a, .int .i64 b, .int .i64 c], .int .i64 er]) ∧ Below w.heap.size w w' := by
  subst h1 h2 h3 h4; exact spec_any n w
theorem waste_at (n a : Int) (w : World) (h1 : wA n = a) :
    Calls Try.prog 13 #[.int .i64 n] w fun e w' => e = .returned (.int .i64 a) ∧ Below w.heap.size w w' := by
  subst h1; exact waste_any n w

/-- a block of three cells that was just laid, behind a call -/
theorem new3 {w w' : World} {a b c : Value} {t : TypeId} (hb : Below (w.alloc (.cells #[a, b, c] t)).heap.size (w.alloc (.cells #[a, b, c] t)) w') :
    w'.cell? ⟨w.heap.size, 0, none⟩ = some a ∧ w'.cell? ⟨w.heap.size, 1, none⟩ = some b ∧ w'.cell? ⟨w.heap.size, 2, none⟩ = some c ∧ w.heap.size < w'.heap.size ∧ Below w.heap.size w w' := by
  refine ⟨?_, ?_, ?_, by have := hb.size; simp at this; omega, (by repeat (first | exact Below.refl _ _ | assumption | refine Below.setCell ?_ (by first | omega | (simp; done) | (simp; omega)) _ | refine Below.drew ?_ | refine Below.alloc ?_ (by first | omega | (simp; done) | (simp; omega)) _ | refine Below.trans ?_ (Below.mono (by assumption) (by first | omega | (simp; done) | (simp; omega)))))⟩ <;> (rw [hb.cell (by simp)]; simp)
/-- old cells behind a call -/
theorem keep3 {w w' : World} {a b c : Value} {B : Nat} (hb : Below w.heap.size w w') (h : w.cell? ⟨B, 0, none⟩ = some a ∧ w.cell? ⟨B, 1, none⟩ = some b ∧ w.cell? ⟨B, 2, none⟩ = some c) (hB : B < w.heap.size) :
    w'.cell? ⟨B, 0, none⟩ = some a ∧ w'.cell? ⟨B, 1, none⟩ = some b ∧ w'.cell? ⟨B, 2, none⟩ = some c ∧ B < w'.heap.size :=
  ⟨(hb.cell hB).trans h.1, (hb.cell hB).trans h.2.1, (hb.cell hB).trans h.2.2, by have := hb.size; omega⟩

theorem on {w a b : World} (h : Below w.heap.size w a) (k : Below a.heap.size a b) : Below w.heap.size w b := h.trans (k.mono h.size)
theorem keepA {w w' : World} {x : Obj} {a b c : Value} {B : Nat} (hb : Below (w.alloc x).heap.size (w.alloc x) w') (h : w.cell? ⟨B, 0, none⟩ = some a ∧ w.cell? ⟨B, 1, none⟩ = some b ∧ w.cell? ⟨B, 2, none⟩ = some c) (hB : B < w.heap.size) :
    w'.cell? ⟨B, 0, none⟩ = some a ∧ w'.cell? ⟨B, 1, none⟩ = some b ∧ w'.cell? ⟨B, 2, none⟩ = some c ∧ B < w'.heap.size := by
  have hb' : Below w.heap.size w w' := (by repeat (first | exact Below.refl _ _ | assumption | refine Below.setCell ?_ (by first | omega | (simp; done) | (simp; omega)) _ | refine Below.drew ?_ | refine Below.alloc ?_ (by first | omega | (simp; done) | (simp; omega)) _ | refine Below.trans ?_ (Below.mono (by assumption) (by first | omega | (simp; done) | (simp; omega)))))
  exact ⟨(hb'.cell hB).trans h.1, (hb'.cell hB).trans h.2.1, (hb'.cell hB).trans h.2.2, by have := hb'.size; omega⟩

set_option maxHeartbeats 1000000 in
theorem works_any (w : World) : Calls Try.prog 15 #[] w fun e w' => e = .returned (.bool true) ∧ Below w.heap.size w w' := by
  have hw := Below.refl w.heap.size w
  go_enter Try.func15, Try.ntmps15
  go_wp2_with (go_at_call 20; refine (cl_true _ _ _ _ (by decide) (by decide)).mono ?_; rintro e w1 ⟨rfl, hb⟩; replace hw := on hw hb; clear hb)
  refine (size_at 3 48 0 _ (by decide) (by decide)).mono ?_
  rintro e w2 ⟨rfl, hb⟩; replace hw := on hw hb; clear hb
  go_wp2_with fail
  refine (size_at 10 0 9 _ (by decide) (by decide)).mono ?_
  rintro e w3 ⟨rfl, hb⟩; replace hw := on hw hb; clear hb
  go_wp2_with fail
  refine (spec_at 0 8 8 4 0 _ (by decide) (by decide) (by decide) (by decide)).mono ?_
  rintro e w4 ⟨rfl, hb⟩; replace hw := on hw hb; clear hb
  go_wp2_with fail
  refine (spec_at 3 48 16 4 0 _ (by decide) (by decide) (by decide) (by decide)).mono ?_
  rintro e w5 ⟨rfl, hb5⟩
  obtain ⟨q0, q1, q2, hz, hb⟩ := new3 hb5
  have hw5 := on hw hb; clear hb
  go_wp2_with fail
  refine (waste_at 100 28 _ (by decide)).mono ?_
  rintro e w6 ⟨rfl, hb6⟩
  obtain ⟨r0, r1, r2, hz6, hb⟩ := new3 hb6
  have hw6 := on hw5 hb; clear hb
  obtain ⟨q0', q1', q2', hz'⟩ := keepA hb6 ⟨q0, q1, q2⟩ hz
  clear hb6 q0 q1 q2
  go_wp2_with fail
  refine (waste_at 600 0 _ (by decide)).mono ?_
  rintro e w7 ⟨rfl, hb7⟩
  obtain ⟨r0', r1', r2', hz7⟩ := keep3 hb7 ⟨r0, r1, r2⟩ hz6
  obtain ⟨q0, q1, q2, hz''⟩ := keep3 hb7 ⟨q0', q1', q2'⟩ hz'
  have hw7 := on hw6 hb7
  clear hb7 q0' q1' q2' r0 r1 r2
  go_wp2_with fail
  go_ret
  exact ⟨rfl, hw7⟩

theorem wf_bd {n : Int} (h : (Lit.int .i64 n).wf = true) : -9223372036854775808 ≤ n ∧ n ≤ 9223372036854775807 := by
  simpa [Lit.wf, IntKind.min, IntKind.max, IntKind.signed, IntKind.bits] using h

set_option maxHeartbeats 1000000 in
theorem answers_any (n : Int) (w : World) (hn : n ≤ 9223372036854775807) : Calls Try.prog 3 #[.int .i64 n] w fun e w' => e = .returned (.bool true) ∧ Below w.heap.size w w' := by
  have hw := Below.refl w.heap.size w
  go_enter Try.func3, Try.ntmps3
  go_wp2_with fail
  refine (class_any n _).mono ?_
  rintro e w1 ⟨rfl, hb⟩; replace hw := on hw hb; clear hb
  go_wp2_with fail
  refine (rclass_any n _ hn).mono ?_
  rintro e w2 ⟨rfl, hb⟩; replace hw := on hw hb; clear hb
  go_wp2_with fail
  refine (size_any n _).mono ?_
  rintro e w3 ⟨rfl, hb⟩; replace hw := on hw hb; clear hb
  go_wp2_with fail
  refine (rsize_any n _).mono ?_
  rintro e w4 ⟨rfl, hb⟩; replace hw := on hw hb; clear hb
  go_wp2_with fail
  refine (spec_any n _).mono ?_
  rintro e w5 ⟨rfl, hb⟩; replace hw := on hw hb; clear hb
  go_wp2_with fail
  refine (rspec_any n _).mono ?_
  rintro e w6 ⟨rfl, hb6⟩
  obtain ⟨q0, q1, q2, hz, hb⟩ := new3 hb6
  have hw6 := on hw hb; clear hb
  go_wp2_with fail
  refine (waste_any n _).mono ?_
  rintro e w7 ⟨rfl, hb7⟩
  obtain ⟨r0, r1, r2, hz7, hb⟩ := new3 hb7
  have hw7 := on hw6 hb; clear hb
  obtain ⟨q0', q1', q2', hz'⟩ := keepA hb7 ⟨q0, q1, q2⟩ hz
  clear hb7 q0 q1 q2
  go_wp2_with fail
  refine (rwaste_any n _ hn).mono ?_
  rintro e w8 ⟨rfl, hb⟩; have hw8 := on hw7 hb; clear hb
  go_wp2_with fail
  refine (works_any _).mono ?_
  rintro e w9 ⟨rfl, hb⟩; have hw9 := on hw8 hb; clear hb
  go_wp2_with fail
  go_ret
  exact ⟨rfl, hw9⟩
end Go.Proofs.Ytpbnbfkpngaipaa
