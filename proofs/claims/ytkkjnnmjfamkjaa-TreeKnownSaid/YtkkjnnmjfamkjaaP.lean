/- Calls as they come in. -/
import Derived.Test.YtkkjnnmjfamkjaaM
import Derived.ProofKit
import Derived.OpenShut
import Derived.Deep.Slices
import Derived.Lib.SmallJoins
namespace Go.Proofs.Ytkkjnnmjfamkjaa
open Go.ChangeShapes Go.WideShapes Go.ChangeAt Go.RowKit Go.Deep

theorem addr_add {x : Addr} {i : Nat} (h : x.spot = none) : x.add i = ⟨x.block, x.off + i, none⟩ := by
  obtain ⟨b, o, s⟩ := x
  simp only at h; subst h
  unfold Addr.add; split <;> simp_all
theorem wf_int {n : Int} (h : (Lit.int .i64 n).wf = true) : IsI n := by
  simpa [IsI, Lit.wf, IntKind.min, IntKind.max, IntKind.signed, IntKind.bits] using h
def dwCells (d : Dw) : List Value := [.int .i64 d.1, .int .i64 d.2]
section
variable {H : Type} {enc : TypeId × Value → H} {w : World} {base : Nat} {spare : Nat → Bool} {held : Bool}
set_option maxRecDepth 100000 in
theorem trod_do {n : Nat} {cs : List Value} {x : DataW H × List MemPlace} (h : DataW.trod enc Try.prog w base spare held n 29 cs = some x) : ∃ d : Dw, cs = dwCells d ∧ IsI d.1 ∧ IsI d.2 := by
  have hc3 : Try.prog.cellsOf 3 = 1 := by kernel_rfl
  have hc29 : Try.prog.cellsOf 29 = 2 := by kernel_rfl
  obtain ⟨xs, m, _, _, hl, hxl, hg⟩ := DataW.trod_struct Try.underlying29 h
  rw [hc29] at hl
  match cs, hl with
  | [c0, c1], _ =>
    have g0 : DataW.trod enc Try.prog w base spare held m 3 (([c0, c1].drop 0).take (Try.prog.cellsOf 3)) = xs[0]? := hg 0 _ rfl
    have g1 : DataW.trod enc Try.prog w base spare held m 3 (([c0, c1].drop 1).take (Try.prog.cellsOf 3)) = xs[1]? := hg 1 _ rfl
    rw [hc3] at g0 g1
    rw [List.getElem?_eq_getElem (by rw [hxl]; decide)] at g0 g1
    obtain ⟨n0, e0, _, w0⟩ := DataW.trod_int Try.underlying3 g0
    obtain ⟨n1, e1, _, w1⟩ := DataW.trod_int Try.underlying3 g1
    simp at e0 e1
    subst e0 e1
    exact ⟨(n0, n1), rfl, wf_int w0, wf_int w1⟩
/-- a slice of calls that came in -/
theorem open_dos_arg {a : Option Addr} {len cap : Nat} {d : DataW H} {p : List MemPlace} (hsp : ∀ b, spare b = true) (h : DataW.Trod enc Try.prog w 0 spare held 22 (.slice a len cap) d p) :
    ∃ l : List Dw, l.length = len ∧ IsDos w a l ∧ (∀ x ∈ l, IsI x.2) ∧ len ≤ 9223372036854775807 := by
  have hc29 : Try.prog.cellsOf 29 = 2 := by kernel_rfl
  obtain ⟨fuel, hf⟩ := h
  rcases open_slice Try.underlying22 hf with ⟨hcs, _⟩ | ⟨x, l, c, m, n, D, Pl, hcs, _, hl, hm, hmm, hx, hi⟩
  · simp [Value.cells] at hcs
    obtain ⟨rfl, rfl, rfl⟩ := hcs
    exact ⟨[], rfl, fun h => absurd rfl h, fun d h => (by cases h), by omega⟩
  · simp [Value.cells] at hcs
    obtain ⟨rfl, rfl, rfl⟩ := hcs
    rw [hsp] at hmm
    simp only [if_true] at hmm
    obtain rfl := hmm
    rw [hc29] at hi
    have each : ∀ i, i < m → ∃ e : Dw, IsI e.2 ∧ ∀ j, j < 2 → w.cell? (x.add (i * 2 + j)) = (dwCells e)[j]? := fun i him => by
      obtain ⟨cs', hc, ht⟩ := hi i him
      obtain ⟨e, rfl, w1, w2⟩ := trod_do ht
      obtain ⟨_, _, hat⟩ := World.cells?_some hc
      exact ⟨e, w2, fun j hj => by rw [← Go.Deep.add_add]; exact hat j hj⟩
    let F : Nat → Dw := fun i => if h : i < m then (each i h).choose else (0, 0)
    have hF : ∀ i, i < m → IsI (F i).2 ∧ ∀ j, j < 2 → w.cell? (x.add (i * 2 + j)) = (dwCells (F i))[j]? := fun i hlt => by
      have := (each i hlt).choose_spec
      simp only [F, dif_pos hlt]; exact this
    refine ⟨(List.range len).map F, by simp, fun hne => ?_, fun d hd => ?_, by unfold maxLen at hm; omega⟩
    · have h0 : 0 < len := by
        rcases Nat.eq_zero_or_pos len with h | h
        · subst h; simp at hne
        · exact h
      have hspot : x.spot = none := by
        have := (hF 0 (by omega)).2 0 (by omega)
        have := World.cell?_spot (show w.cell? (x.add (0 * 2 + 0)) = some (.int .i64 (F 0).1) from this)
        simpa [Addr.add] using this
      refine ⟨x.block, x.off, by obtain ⟨b, o, s⟩ := x; simp only at hspot; subst hspot; rfl, fun k c hk => ?_⟩
      have hkl : k < len := by
        have := (List.getElem?_eq_some_iff.1 hk).1
        simpa using this
      rw [List.getElem?_map, List.getElem?_range hkl] at hk
      obtain rfl : F k = c := by simpa using hk
      have hat := (hF k (by omega)).2
      have at_ : ∀ j v, j < 2 → (dwCells (F k))[j]? = some v → w.cell? ⟨x.block, x.off + k * 2 + j, none⟩ = some v := fun j v hj hv => by
        rw [Nat.add_assoc, ← addr_add hspot, hat j hj, hv]
      exact ⟨at_ 0 _ (by omega) rfl, at_ 1 _ (by omega) rfl⟩
    · simp only [List.mem_map, List.mem_range] at hd
      obtain ⟨i, hi', rfl⟩ := hd
      exact (hF i (by omega)).1
end
end Go.Proofs.Ytkkjnnmjfamkjaa
