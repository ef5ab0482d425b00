/- works, PickTells, PickGaps. -/
import Derived.Test.YtlndhdficackcaaF
namespace Go.Proofs.Ytlndhdficackcaa
open Go.RowKit Go.Shelf

set_option maxHeartbeats 400000 in
theorem tells_true (c want : Int) (is : Bool) (w : World) (h : c = want) (h' : is = true) :
    Calls Try.prog 21 #[.int .i64 c, .bool is, .int .i64 want] w fun e w' => e = .returned (.bool true) ∧ w = w' := by
  subst h h'
  go_enter Try.func21, Try.ntmps21
  go_wp2_with fail
  go_ret
  exact ⟨by simp, rfl⟩

/-- a slice written out -/
theorem isSl_lit {α : Type} {enc : α → Value} {w : World} {t : TypeId} {xs : List α} (h : xs.length ≤ 1000) {cs : Array Value} (hc : cs.toList = xs.map enc) : IsSl enc (w.alloc (.cells cs t)) (some ⟨w.heap.size, 0, none⟩) xs :=
  ⟨by omega, fun _ => ⟨w.heap.size, 0, rfl, fun i x hx => by
    rw [World.cell?, show (w.alloc _).heap[w.heap.size]? = _ from heap_alloc_new w _]
    have : cs[i]? = some (enc x) := by rw [← Array.getElem?_toList, hc, List.getElem?_map, hx]; rfl
    simpa using this⟩⟩

theorem pick_at (bs : List Bool) (a : Option Addr) (cap : Nat) (n : Int) (len : Nat) (r : Int) (b : Bool) (w : World) (hI : IsSl encB w a bs) (hbs : bs.length ≤ 17592186044416) (hl : bs.length = len) (h1 : pickA bs n = r) (h2 : pickB bs = b) :
    Calls Try.prog 9 #[.slice a len cap, .int .i64 n] w fun e w' => e = .returned (.tuple #[.int .i64 r, .bool b]) ∧ Below w.heap.size w w' := by
  subst hl h1 h2; exact pick_any bs a cap n w hI hbs
theorem next_at (bs : List Bool) (a : Option Addr) (cap : Nat) (n : Int) (len : Nat) (r : Int) (b : Bool) (w : World) (hI : IsSl encB w a bs) (hbs : bs.length ≤ 17592186044416) (hl : bs.length = len) (h1 : nextA bs n = r) (h2 : pickB bs = b) :
    Calls Try.prog 11 #[.slice a len cap, .int .i64 n] w fun e w' => e = .returned (.tuple #[.int .i64 r, .bool b]) ∧ Below w.heap.size w w' := by
  subst hl h1 h2; exact next_any bs a cap n w hI hbs
theorem gap_at (xs : List Int) (a : Option Addr) (cap : Nat) (cpu : Int) (len : Nat) (r : Int) (w : World) (hx : IsSl encI w a xs) (hl : xs.length = len) (h : (gap xs cpu : Int) = r) :
    Calls Try.prog 14 #[.slice a len cap, .int .i64 cpu] w fun e w' => e = .returned (.int .i64 r) ∧ w = w' := by
  subst hl h; exact gap_any xs a cap cpu w hx
theorem fair_at (xs : List Int) (a : Option Addr) (cap : Nat) (c n : Int) (len : Nat) (r : Bool) (w : World) (hx : IsSl encI w a xs) (hl : xs.length = len) (h : fairB xs c n = r) :
    Calls Try.prog 16 #[.slice a len cap, .int .i64 c, .int .i64 n] w fun e w' => e = .returned (.bool r) ∧ w = w' := by
  subst hl h; exact fair_any xs a cap c n w hx

set_option maxRecDepth 100000 in
set_option maxHeartbeats 1000000 in
theorem works_any (w : World) : Calls Try.prog 13 #[] w fun e w' => e = .returned (.bool true) ∧ Below w.heap.size w w' := by
  have s1 := isSl_lit (enc := encB) (w := w) (t := 4) (xs := [false, true, true]) (by simp) (cs := #[.bool false, .bool true, .bool true]) rfl
  have HW : Below w.heap.size w (w.alloc (.cells #[.bool false, .bool true, .bool true] 4)) := (by repeat (first | exact Below.refl _ _ | assumption | refine Below.setCell ?_ (by first | omega | (simp; done) | (simp; omega)) _ | refine Below.drew ?_ | refine Below.alloc ?_ (by first | omega | (simp; done) | (simp; omega)) _ | refine Below.trans ?_ (Below.mono (by assumption) (by first | omega | (simp; done) | (simp; omega)))))
  have S1 := Lib.hid s1
  clear s1
  go_enter Try.func13, Try.ntmps13
  go_wp2_with fail
  refine (pick_at [false, true, true] _ _ _ _ 1 true _ S1.out (by simp) rfl (by decide) (by decide)).mono ?_
  rintro e w1 ⟨rfl, hb⟩
  replace S1 := Lib.hid (S1.out.below hb); replace HW := on HW hb; clear hb
  go_wp2_with fail
  refine (pick_at [false, true, true] _ _ _ _ 2 true _ S1.out (by simp) rfl (by decide) (by decide)).mono ?_
  rintro e w2 ⟨rfl, hb⟩
  replace S1 := Lib.hid (S1.out.below hb); replace HW := on HW hb; clear hb
  go_wp2_with fail
  refine (pick_at [false, true, true] _ _ _ _ 2 true _ S1.out (by simp) rfl (by decide) (by decide)).mono ?_
  rintro e w3 ⟨rfl, hb⟩
  replace S1 := Lib.hid (S1.out.below hb); replace HW := on HW hb; clear hb S1
  go_wp2_with fail
  refine (pick_at [false] _ _ _ _ 0 false _ (isSl_lit (by simp) rfl) (by simp) rfl (by decide) (by decide)).mono ?_
  rintro e w4 ⟨rfl, hb⟩
  replace HW := on (HW.alloc HW.size _) hb; clear hb
  go_wp2_with fail
  refine (next_at [true, true, false] _ _ _ _ 0 true _ (isSl_lit (by simp) rfl) (by simp) rfl (by decide) (by decide)).mono ?_
  rintro e w5 ⟨rfl, hb⟩
  replace HW := on (HW.alloc HW.size _) hb; clear hb
  go_wp2_with fail
  refine (next_at [true, true, false] _ _ _ _ 1 true _ (isSl_lit (by simp) rfl) (by simp) rfl (by decide) (by decide)).mono ?_
  rintro e w6 ⟨rfl, hb⟩
  replace HW := on (HW.alloc HW.size _) hb; clear hb
  go_wp2_with fail
  refine (next_at [false, true] _ _ _ _ 1 true _ (isSl_lit (by simp) rfl) (by simp) rfl (by decide) (by decide)).mono ?_
  rintro e w7 ⟨rfl, hb⟩
  replace HW := on (HW.alloc HW.size _) hb; clear hb
  go_wp2_with fail
  refine (next_at [true] _ _ _ _ 0 true _ (isSl_lit (by simp) rfl) (by simp) rfl (by decide) (by decide)).mono ?_
  rintro e w8 ⟨rfl, hb⟩
  replace HW := on (HW.alloc HW.size _) hb; clear hb
  have s2 := Lib.hid (isSl_lit (enc := encI) (w := w8) (t := 3) (xs := [0, 1, 1, 0, 1]) (by simp) (cs := #[.int .i64 0, .int .i64 1, .int .i64 1, .int .i64 0, .int .i64 1]) rfl)
  replace HW := HW.alloc HW.size (.cells #[.int .i64 0, .int .i64 1, .int .i64 1, .int .i64 0, .int .i64 1] 3)
  go_wp2_with (go_at_call 21; refine (tells_true _ _ _ _ (by decide) (by decide)).mono ?_; rintro e w1 ⟨rfl, rfl⟩)
  refine (gap_at [0, 1, 1, 0, 1] _ _ _ _ 2 _ s2.out rfl (by decide)).mono ?_
  rintro e w9 ⟨rfl, rfl⟩
  go_wp2_with fail
  refine (fair_at [0, 1, 1, 0, 1] _ _ _ _ _ false _ s2.out rfl (by decide)).mono ?_
  rintro e w9 ⟨rfl, rfl⟩
  go_wp2_with fail
  refine (fair_at [0, 1, 1, 0, 1] _ _ _ _ _ true _ s2.out rfl (by decide)).mono ?_
  rintro e w9 ⟨rfl, rfl⟩
  go_wp2_with fail
  go_ret
  exact ⟨rfl, HW⟩
end Go.Proofs.Ytlndhdficackcaa
