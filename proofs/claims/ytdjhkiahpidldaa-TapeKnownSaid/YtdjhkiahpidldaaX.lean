/- A nil slice of a script that came in has no room. -/
import Derived.Test.YtdjhkiahpidldaaT
namespace Go.Proofs.Ytdjhkiahpidldaa
open Go.ChangeShapes Go.WideShapes Go.ChangeAt Go.RowKit Go.Deep

/-- in the script v, a nil slice has no room -/
def ScrNil (w : World) (v : Value) : Prop := ∀ c0 c1 a n cc ap m cp, v = .agg #[c0, c1, .slice a n cc, .slice ap m cp] → (ap = none → cp = 0) ∧ ∀ g off, a = some ⟨g, off, none⟩ → ∀ i, i < n → ∀ la k lc, w.cell? ⟨g, off + i, none⟩ = some (.slice la k lc) → la = none → lc = 0
theorem ScrNil.below {w w' : World} {v : Value} (h : ScrNil w v) {s : Scr} (hs : ScrAt w v s) (hb : Below w.heap.size w w') : ScrNil w' v := fun c0 c1 a n cc ap m cp hv => by
  obtain ⟨h1, h2⟩ := h c0 c1 a n cc ap m cp hv
  refine ⟨h1, fun g off ha i hi la k lc hc hl => ?_⟩
  obtain ⟨a', cc', ap', cp', rfl, h3, _⟩ := hs.val
  simp only [Value.agg.injEq, Array.mk.injEq, List.cons.injEq, Value.slice.injEq, and_true] at hv
  obtain ⟨_, _, ⟨rfl, rfl, rfl⟩, _⟩ := hv
  obtain ⟨g', off', ha', hL⟩ := h3 (by intro e; rw [e] at hi; simp at hi)
  rw [ha] at ha'
  obtain ⟨rfl, rfl⟩ : g = g' ∧ off = off' := by injection ha' with e; injection e with e1 e2; exact ⟨e1, e2⟩
  obtain ⟨la', lc', hc', _⟩ := hL i _ (List.getElem?_eq_getElem hi)
  have := below_cell hb (Nat.le_refl _) hc'
  rw [hc] at this
  refine h2 g off ha i hi la k lc ?_ hl
  rw [hc']; exact this.symm
section
variable {H : Type} {enc : TypeId × Value → H} {w : World} {base : Nat} {spare : Nat → Bool} {held : Bool}
theorem nil_slice {t e : TypeId} {n : Nat} {v : Value} {x : DataW H × List MemPlace} (ht : Try.prog.underlying t = some (.slice e)) (h : DataW.trod enc Try.prog w base spare held n t [v] = some x) {k lc : Nat} (hv : v = .slice none k lc) : lc = 0 := by
  rcases open_slice ht h with ⟨hcs, _⟩ | ⟨x0, len, cap, m, n', D, Pl, hcs, _⟩
  · obtain rfl : v = .slice none 0 0 := by simpa using hcs
    injection hv with _ _ h; exact h.symm
  · obtain rfl : v = .slice (some x0) len cap := by simpa using hcs
    injection hv with h; cases h
set_option maxRecDepth 100000 in
theorem script_nil_arg {v : Value} {d : DataW H} {p : List MemPlace} (h : DataW.Trod enc Try.prog w base spare held 27 v d p) : ScrNil w v := by
  have hc24 : Try.prog.cellsOf 24 = 1 := by kernel_rfl
  have hc25 : Try.prog.cellsOf 25 = 1 := by kernel_rfl
  have hc42 : Try.prog.cellsOf 42 = 1 := by kernel_rfl
  intro c0 c1 a n cc ap m cp hv
  subst hv
  obtain ⟨fuel, hf⟩ := h
  obtain ⟨xs, f, _, hx, hl, hxl, hg⟩ := DataW.trod_struct Try.underlying27 hf
  have g2 : DataW.trod enc Try.prog w base spare held f 24 (([c0, c1, .slice a n cc, .slice ap m cp].drop 2).take (Try.prog.cellsOf 24)) = xs[2]? := hg 2 _ rfl
  have g3 : DataW.trod enc Try.prog w base spare held f 25 (([c0, c1, .slice a n cc, .slice ap m cp].drop 3).take (Try.prog.cellsOf 25)) = xs[3]? := hg 3 _ rfl
  rw [hc24] at g2
  rw [hc25] at g3
  have hxs : xs.length = 4 := hxl
  match xs, hxs with
  | [x0, x1, x2, x3], _ =>
    simp only [List.drop_zero, List.drop_succ_cons, List.take_succ_cons, List.take_zero, List.getElem?_cons_zero, List.getElem?_cons_succ] at g2 g3
    refine ⟨fun e => nil_slice Try.underlying25 g3 (by rw [e]), fun g off ha i hi la k lc hc hla => ?_⟩
    subst ha hla
    rcases open_slice1 Try.underlying24 hc42 g2 with ⟨hcs, _⟩ | ⟨y, len, cap, m', n', V, D, Pl, hcs, _, hl', hm, hmm, hx', hi'⟩
    · simp at hcs
    · simp at hcs
      obtain ⟨rfl, rfl, rfl⟩ := hcs
      have hlm : n ≤ m' := by rw [hmm]; split <;> omega
      obtain ⟨h1, h2⟩ := hi' i (by omega)
      rw [addr_add rfl, hc] at h1
      exact nil_slice Try.underlying42 h2 (Option.some.inj h1).symm
end
end Go.Proofs.Ytdjhkiahpidldaa
