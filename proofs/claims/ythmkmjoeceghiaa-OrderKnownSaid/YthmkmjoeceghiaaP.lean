/- Deeds as they come in. -/
import Derived.Test.YthmkmjoeceghiaaA
import Derived.ProofKit
import Derived.OpenShut
import Derived.Deep.Slices
import Derived.Lib.SmallJoins
import Derived.SizedLaws
namespace Go.Proofs.Ythmkmjoeceghiaa
open Go.ChangeShapes Go.WideShapes Go.ChangeAt Go.RowKit Go.Deep

theorem addr_add {x : Addr} {i : Nat} (h : x.spot = none) : x.add i = ⟨x.block, x.off + i, none⟩ := by
  obtain ⟨b, o, s⟩ := x
  simp only at h; subst h
  unfold Addr.add; split <;> simp_all
theorem wf_int {n : Int} (h : (Lit.int .i64 n).wf = true) : IsI n := by
  simpa [IsI, Lit.wf, IntKind.min, IntKind.max, IntKind.signed, IntKind.bits] using h
section
variable {H : Type} {enc : TypeId × Value → H} {w : World} {base : Nat} {spare : Nat → Bool} {held : Bool}
set_option maxRecDepth 100000 in
theorem trod_ob {n : Nat} {cs : List Value} {x : DataW H × List MemPlace} (h : DataW.trod enc Try.prog w base spare held n 30 cs = some x) : ∃ o : Ob, cs = obCells o ∧ WfO o := by
  have hc3 : Try.prog.cellsOf 3 = 1 := by kernel_rfl
  have hc30 : Try.prog.cellsOf 30 = 3 := by kernel_rfl
  obtain ⟨xs, m, _, _, hl, hxl, hg⟩ := DataW.trod_struct Try.underlying30 h
  rw [hc30] at hl
  match cs, hl with
  | [c0, c1, c2], _ =>
    have g0 : DataW.trod enc Try.prog w base spare held m 3 (([c0, c1, c2].drop 0).take (Try.prog.cellsOf 3)) = xs[0]? := hg 0 _ rfl
    have g1 : DataW.trod enc Try.prog w base spare held m 3 (([c0, c1, c2].drop 1).take (Try.prog.cellsOf 3)) = xs[1]? := hg 1 _ rfl
    have g2 : DataW.trod enc Try.prog w base spare held m 3 (([c0, c1, c2].drop 2).take (Try.prog.cellsOf 3)) = xs[2]? := hg 2 _ rfl
    rw [hc3] at g0 g1 g2
    rw [List.getElem?_eq_getElem (by rw [hxl]; decide)] at g0 g1 g2
    obtain ⟨n0, e0, _, w0⟩ := DataW.trod_int Try.underlying3 g0
    obtain ⟨n1, e1, _, w1⟩ := DataW.trod_int Try.underlying3 g1
    obtain ⟨n2, e2, _, w2⟩ := DataW.trod_int Try.underlying3 g2
    simp at e0 e1 e2
    subst e0 e1 e2
    exact ⟨(n0, n1, n2), rfl, wf_int w0, wf_int w1, wf_int w2⟩
set_option maxRecDepth 100000 in
theorem trod_deed {n : Nat} {cs : List Value} {x : DataW H × List MemPlace} (h : DataW.trod enc Try.prog w base spare held n 32 cs = some x) : ∃ d : Dd, cs = ddCells d ∧ IsI d.1 ∧ WfO d.2 := by
  have hc3 : Try.prog.cellsOf 3 = 1 := by kernel_rfl
  have hc30 : Try.prog.cellsOf 30 = 3 := by kernel_rfl
  have hc32 : Try.prog.cellsOf 32 = 4 := by kernel_rfl
  obtain ⟨xs, m, _, _, hl, hxl, hg⟩ := DataW.trod_struct Try.underlying32 h
  rw [hc32] at hl
  match cs, hl with
  | [c0, c1, c2, c3], _ =>
    have g0 : DataW.trod enc Try.prog w base spare held m 3 (([c0, c1, c2, c3].drop 0).take (Try.prog.cellsOf 3)) = xs[0]? := hg 0 _ rfl
    have g1 : DataW.trod enc Try.prog w base spare held m 30 (([c0, c1, c2, c3].drop 1).take (Try.prog.cellsOf 30)) = xs[1]? := hg 1 _ rfl
    rw [hc3] at g0
    rw [hc30] at g1
    rw [List.getElem?_eq_getElem (by rw [hxl]; decide)] at g0 g1
    obtain ⟨n0, e0, _, w0⟩ := DataW.trod_int Try.underlying3 g0
    obtain ⟨o, e1, w1⟩ := trod_ob g1
    simp [obCells] at e0 e1
    obtain ⟨rfl, rfl, rfl⟩ := e1
    subst e0
    exact ⟨(n0, o), rfl, wf_int w0, w1⟩

/-- a slice of deeds that came in -/
theorem open_deeds_arg {a : Option Addr} {len cap : Nat} {d : DataW H} {p : List MemPlace} (hsp : ∀ b, spare b = true) (h : DataW.Trod enc Try.prog w 0 spare held 22 (.slice a len cap) d p) :
    ∃ l : List Dd, l.length = len ∧ IsDeeds w a l ∧ WfD l ∧ (∀ x ∈ l, IsI x.1) ∧ len ≤ cap ∧ cap ≤ maxLen ∧ (a = none → cap = 0) ∧ (a ≠ none → ∃ es sp, d = .slice es sp ∧ es.length + sp.length = cap) := by
  have hc32 : Try.prog.cellsOf 32 = 4 := by kernel_rfl
  obtain ⟨fuel, hf⟩ := h
  rcases open_slice Try.underlying22 hf with ⟨hcs, _⟩ | ⟨x, l, c, m, n, D, Pl, hcs, _, hl, hm, hmm, hx, hi⟩
  · simp [Value.cells] at hcs
    obtain ⟨rfl, rfl, rfl⟩ := hcs
    exact ⟨[], rfl, fun h => absurd rfl h, fun d h => (by cases h), fun d h => (by cases h), Nat.le_refl _, by simp [maxLen], fun _ => rfl, fun h => absurd rfl h⟩
  · simp [Value.cells] at hcs
    obtain ⟨rfl, rfl, rfl⟩ := hcs
    rw [hsp] at hmm
    simp only [if_true] at hmm
    obtain rfl := hmm
    rw [hc32] at hi
    have each : ∀ i, i < m → ∃ e : Dd, IsI e.1 ∧ WfO e.2 ∧ ∀ j, j < 4 → w.cell? (x.add (i * 4 + j)) = (ddCells e)[j]? := fun i him => by
      obtain ⟨cs', hc, ht⟩ := hi i him
      obtain ⟨e, rfl, w1, w2⟩ := trod_deed ht
      obtain ⟨_, _, hat⟩ := World.cells?_some hc
      exact ⟨e, w1, w2, fun j hj => by rw [← Go.Deep.add_add]; exact hat j hj⟩
    let F : Nat → Dd := fun i => if h : i < m then (each i h).choose else (0, 0, 0, 0)
    have hF : ∀ i, i < m → IsI (F i).1 ∧ WfO (F i).2 ∧ ∀ j, j < 4 → w.cell? (x.add (i * 4 + j)) = (ddCells (F i))[j]? := fun i hlt => by
      have := (each i hlt).choose_spec
      simp only [F, dif_pos hlt]; exact this
    refine ⟨(List.range len).map F, by simp, fun hne => ?_, fun d hd => ?_, fun d hd => ?_, hl, hm, (fun h => by cases h), fun _ => ⟨_, _, (Prod.mk.inj hx).1, by simp; omega⟩⟩
    · have h0 : 0 < len := by
        rcases Nat.eq_zero_or_pos len with h | h
        · subst h; simp at hne
        · exact h
      have hspot : x.spot = none := by
        have := (hF 0 (by omega)).2.2 0 (by omega)
        have := World.cell?_spot (show w.cell? (x.add (0 * 4 + 0)) = some (.int .i64 (F 0).1) from this)
        simpa [Addr.add] using this
      refine ⟨x.block, x.off, by obtain ⟨b, o, s⟩ := x; simp only at hspot; subst hspot; rfl, fun k c hk => ?_⟩
      have hkl : k < len := by
        have := (List.getElem?_eq_some_iff.1 hk).1
        simpa using this
      rw [List.getElem?_map, List.getElem?_range hkl] at hk
      obtain rfl : F k = c := by simpa using hk
      have hat := (hF k (by omega)).2.2
      have at_ : ∀ j v, j < 4 → (ddCells (F k))[j]? = some v → w.cell? ⟨x.block, x.off + k * 4 + j, none⟩ = some v := fun j v hj hv => by
        rw [Nat.add_assoc, ← addr_add hspot, hat j hj, hv]
      exact ⟨at_ 0 _ (by omega) rfl, at_ 1 _ (by omega) rfl, at_ 2 _ (by omega) rfl, at_ 3 _ (by omega) rfl⟩
    · simp only [List.mem_map, List.mem_range] at hd
      obtain ⟨i, hi', rfl⟩ := hd
      exact (hF i (by omega)).2.1
    · simp only [List.mem_map, List.mem_range] at hd
      obtain ⟨i, hi', rfl⟩ := hd
      exact (hF i (by omega)).1
/-- the bound that the reach gives -/
theorem cap_of_reach {ts : List TypeId} {ds : List (DataW H)} {j : Nat} {t e : TypeId} {a : Option Addr} {cap n : Nat} {d : DataW H} (hs : (DataW.weightsEach Try.prog ts ds).all (· ≤ reachBytes) = true) (ht : ts[j]? = some t) (hd : ds[j]? = some d) (hu : Try.prog.underlying t = some (.slice e)) (hb : Try.prog.bytesOf e = n)
    (hn : a = none → cap = 0) (h : a ≠ none → ∃ es sp, d = .slice es sp ∧ es.length + sp.length = cap) : cap * n ≤ 140737488355328 := by
  by_cases ha : a = none
  · rw [hn ha]; omega
  · obtain ⟨es, sp, rfl, hl⟩ := h ha
    have := sized_slice hs ht hd hu
    have hr := reachBytes_lt
    rw [hb, hl] at this
    omega
end
end Go.Proofs.Ythmkmjoeceghiaa
