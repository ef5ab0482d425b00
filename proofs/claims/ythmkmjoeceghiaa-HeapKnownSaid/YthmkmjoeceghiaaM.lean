/- HeapLists. -/
import Derived.Test.YthmkmjoeceghiaaJ
import Derived.Test.YthmkmjoeceghiaaP
namespace Go.Proofs.Ythmkmjoeceghiaa
open Go.RowKit

attribute [local go_sem ↓] Go.wp_at_zero Go.wp_at_succ
set_option maxRecDepth 100000 in
set_option maxHeartbeats 1000000 in
theorem heaplists_any (l : List Dd) (a : Option Addr) (cap : Nat) (w : World) (hl : l.length < 5000000000000) (hw : WfD l) (hI : IsDeeds w a l) :
    Calls Try.prog 3 #[.slice a l.length cap] w fun e w' => e = .returned (.bool true) ∧ Below w.heap.size w w' := by
  have h1 := play_any l a cap w (by unfold maxLen; omega) hw hI
  have h2 := fun W (h : Below w.heap.size w W) => rplay_any l a cap W hl (hI.below h)
  have H2 := Lib.hid h2
  clear h2 hI hw
  generalize (playR l).1 = p1 at *
  generalize (playR l).2 = p2 at *
  go_enter Try.func3, Try.ntmps3
  go_wp2_with fail
  refine h1.mono ?_
  rintro e w1 ⟨rfl, hb⟩
  have HB := Lib.hid hb
  clear h1 hb
  go_wp2_with fail
  refine (H2.out w1 HB.out).mono ?_
  rintro e w2 ⟨rfl, hb⟩
  replace HB := Lib.hid (on HB.out hb)
  clear hb H2
  go_wp2_with fail
  refine (works_any w2).mono ?_
  rintro e w3 ⟨rfl, hb⟩
  replace HB := Lib.hid (on HB.out hb)
  clear hb
  go_wp2_with fail
  go_ret
  exact ⟨rfl, HB.out⟩
end Go.Proofs.Ythmkmjoeceghiaa
