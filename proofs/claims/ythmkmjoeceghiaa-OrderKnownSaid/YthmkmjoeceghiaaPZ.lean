/- What the order of calls wants of the heap's texts. -/
import Derived.Test.YthmkmjoeceghiaaR
import Derived.Test.YthmkmjoeceghiaaTT
import Derived.Deep.OwnRows
import Derived.Lib.MinMax
namespace Go.Proofs.Ythmkmjoeceghiaa
open Go.RowKit

attribute [local go_sem ↓] Go.wp_at_zero Go.wp_at_succ
theorem info4 : (Try.prog.info? 4).map (fun i => (i.zero, i.size, i.bytes)) = some (some (.bool false), 1, 1) := by kernel_rfl
theorem Hp.grownX {w w' : World} {B M n R : Nat} {S : List Ob} (h : Hp w B M n S) (hB : B ≠ R) (hM : M ≠ R) (hg : w.grownBy w' (some R)) : Hp w' B M n S := by
  obtain ⟨D, hD, hh⟩ := h.map
  exact ⟨(hg.block B h.bB.lt (by simpa using hB)).trans h.bB, ⟨D, hD.kept hg (by simpa using hM), hh⟩, h.wf⟩
theorem IsDeeds.take {w : World} {a : Option Addr} {l : List Dd} (h : IsDeeds w a l) (n : Nat) : IsDeeds w a (l.take n) := fun hne => by
  obtain ⟨g, off, rfl, hc⟩ := h (by intro e; rw [e] at hne; simp at hne)
  exact ⟨g, off, rfl, fun k c hx => hc k c (by rw [List.getElem?_take] at hx; split at hx <;> simp_all)⟩
end Go.Proofs.Ythmkmjoeceghiaa
