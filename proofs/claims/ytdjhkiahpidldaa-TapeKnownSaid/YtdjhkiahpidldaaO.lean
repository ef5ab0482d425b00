/- Arguments as they come in, opened into this seat's own words. -/
import Derived.Test.YtdjhkiahpidldaaK
import Derived.ProofKit
import Derived.OpenShut
import Derived.Deep.Slices
import Derived.Lib.SmallJoins
import Derived.SizedLaws
namespace Go.Proofs.Ytdjhkiahpidldaa
open Go.ChangeShapes Go.WideShapes Go.ChangeAt Go.RowKit Go.Deep

theorem addr_add {x : Addr} {i : Nat} (h : x.spot = none) : x.add i = ⟨x.block, x.off + i, none⟩ := by
  obtain ⟨b, o, s⟩ := x
  simp only at h; subst h
  unfold Addr.add; split <;> simp_all

theorem isSl_of_cells {α : Type} {enc : α → Value} {w : World} {x : Addr} {xs : List α} (hm : xs.length ≤ 9223372036854775807) (hc : ∀ i v, xs[i]? = some v → w.cell? (x.add i) = some (enc v)) : IsSl enc w (some x) xs := by
  refine ⟨hm, fun hne => ?_⟩
  have h0 : 0 < xs.length := List.length_pos_iff.2 hne
  have hsp : x.spot = none := by
    have := World.cell?_spot (hc 0 _ (List.getElem?_eq_getElem h0))
    simpa [Addr.add] using this
  exact ⟨x.block, x.off, by obtain ⟨b, o, s⟩ := x; simp only at hsp; subst hsp; rfl, fun i v hv => by rw [← addr_add hsp]; exact hc i v hv⟩

/-- what is known of a slice of one-cell elements that came in -/
structure ArgSl {α : Type} (enc : α → Value) (w : World) (a : Option Addr) (len cap : Nat) (xs : List α) : Prop where
  hsl : IsSl enc w a xs
  hlen : xs.length = len
  hle : len ≤ cap
  hmax : cap ≤ 9223372036854775807
  hnil : a = none → cap = 0

section
variable {H : Type} {enc : TypeId × Value → H} {P : Program} {w : World} {spare : Nat → Bool} {held : Bool} {t e : TypeId} {a : Option Addr} {len cap : Nat} {d : DataW H} {p : List MemPlace}

theorem open_ints_arg {k : IntKind} (ht : P.underlying t = some (.slice e)) (he : P.underlying e = some (.int k)) (hc : P.cellsOf e = 1) (hsp : ∀ b, spare b = true) (h : DataW.Trod enc P w 0 spare held t (.slice a len cap) d p) :
    ∃ zs : List Int, ArgSl (fun z => .int k z) w a len cap (zs.take len) ∧ zs.length = cap ∧ (∀ n ∈ zs, (Lit.int k n).wf = true) := by
  obtain ⟨fuel, hf⟩ := h
  rcases open_ints ht he hc hf with ⟨hcs, _⟩ | ⟨x, l, c, zs, hcs, _, hl, hm, hz, _, hcell, hwz⟩
  · simp [Value.cells] at hcs
    obtain ⟨rfl, rfl, rfl⟩ := hcs
    exact ⟨[], ⟨IsSl.nil, rfl, by omega, by omega, fun _ => rfl⟩, rfl, by simp⟩
  · simp [Value.cells] at hcs
    obtain ⟨rfl, rfl, rfl⟩ := hcs
    rw [hsp] at hz
    simp only [if_true] at hz
    have hm' : cap ≤ 9223372036854775807 := by unfold maxLen at hm; omega
    have hll : (zs.take len).length = len := by rw [List.length_take]; omega
    refine ⟨zs, ⟨isSl_of_cells (by omega) (fun i v hv => ?_), hll, hl, hm', fun h => by cases h⟩, hz, hwz⟩
    rw [List.getElem?_take] at hv
    split at hv
    · have hi := (List.getElem?_eq_some_iff.1 hv).1
      have := hcell i hi
      rw [List.getD_eq_getElem?_getD, hv] at this
      exact this
    · cases hv

/-- as open_ints_arg, with the datum -/
theorem open_ints_argd {k : IntKind} (ht : P.underlying t = some (.slice e)) (he : P.underlying e = some (.int k)) (hc : P.cellsOf e = 1) (hsp : ∀ b, spare b = true) (h : DataW.Trod enc P w 0 spare held t (.slice a len cap) d p) :
    ∃ zs : List Int, ArgSl (fun z => .int k z) w a len cap (zs.take len) ∧ zs.length = cap ∧ (∀ n ∈ zs, (Lit.int k n).wf = true) ∧ (a ≠ none → d = .slice (lits k (zs.take len)) (lits k (zs.drop len))) := by
  obtain ⟨zs, A, hz, hw⟩ := open_ints_arg ht he hc hsp h
  obtain ⟨fuel, hf⟩ := h
  rcases open_ints ht he hc hf with ⟨hcs, _⟩ | ⟨x, l, c, zs', hcs, _, hl, hm, hz', hx, hcell, hwz⟩
  · simp [Value.cells] at hcs
    obtain ⟨rfl, rfl, rfl⟩ := hcs
    exact ⟨zs, A, hz, hw, fun h => absurd rfl h⟩
  · simp [Value.cells] at hcs
    obtain ⟨rfl, rfl, rfl⟩ := hcs
    rw [hsp] at hz'
    simp only [if_true] at hz'
    have hm' : cap ≤ 9223372036854775807 := by unfold maxLen at hm; omega
    have hll : (zs'.take len).length = len := by rw [List.length_take]; omega
    refine ⟨zs', ⟨isSl_of_cells (by omega) (fun i v hv => ?_), hll, hl, hm', fun h => by cases h⟩, hz', hwz, fun _ => (Prod.mk.inj hx).1⟩
    rw [List.getElem?_take] at hv
    split at hv
    · have hi := (List.getElem?_eq_some_iff.1 hv).1
      have := hcell i hi
      rw [List.getD_eq_getElem?_getD, hv] at this
      exact this
    · cases hv
/-- the bound that the reach gives of such an argument -/
theorem len_of_reach {k : IntKind} {ts : List TypeId} {ds : List (DataW H)} {j : Nat} {zs : List Int} {n : Nat} (hs : (DataW.weightsEach P ts ds).all (· ≤ reachBytes) = true) (ht : ts[j]? = some t) (hd : ds[j]? = some d) (hu : P.underlying t = some (.slice e)) (hb : P.bytesOf e = n)
    (A : ArgSl (fun z => .int k z) w a len cap (zs.take len)) (hz : zs.length = cap) (h : a ≠ none → d = .slice (lits k (zs.take len)) (lits k (zs.drop len))) : cap * n ≤ 140737488355328 := by
  by_cases ha : a = none
  · rw [A.hnil ha]; omega
  · rw [h ha] at hd
    have := sized_slice hs ht hd hu
    have hr := reachBytes_lt
    rw [hb] at this
    have e1 : (lits (H := H) k (zs.take len)).length + (lits (H := H) k (zs.drop len)).length = cap := by
      simp [lits, List.length_take, List.length_drop]; have := A.hle; omega
    rw [e1] at this
    omega

theorem open_bools_arg (ht : P.underlying t = some (.slice e)) (he : P.underlying e = some .bool) (hc : P.cellsOf e = 1) (hsp : ∀ b, spare b = true) (h : DataW.Trod enc P w 0 spare held t (.slice a len cap) d p) :
    ∃ (bs : List Bool) (D : Nat → DataW H), ArgSl (fun z => .bool z) w a len cap (bs.take len) ∧ bs.length = cap ∧ (a ≠ none → d = .slice ((List.range len).map D) ((List.range (cap - len)).map fun j => D (len + j))) := by
  obtain ⟨fuel, hf⟩ := h
  rcases open_slice1 ht hc hf with ⟨hcs, hx⟩ | ⟨x, l, c, m, n, V, D, Pl, hcs, _, hl, hm, hmm, hx, hV⟩
  · simp [Value.cells] at hcs
    obtain ⟨rfl, rfl, rfl⟩ := hcs
    exact ⟨[], fun _ => .nil, ⟨IsSl.nil, rfl, by omega, by omega, fun _ => rfl⟩, rfl, fun h => absurd rfl h⟩
  · simp [Value.cells] at hcs
    obtain ⟨rfl, rfl, rfl⟩ := hcs
    rw [hsp] at hmm
    simp only [if_true] at hmm
    have hmm' := hmm.symm
    subst hmm'
    have hm' : cap ≤ 9223372036854775807 := by unfold maxLen at hm; omega
    have hb : ∀ i, i < cap → ∃ b, V i = .bool b := fun i hi => by
      obtain ⟨b, hb, _⟩ := DataW.trod_bool he (hV i hi).2
      exact ⟨b, by simpa using hb⟩
    refine ⟨(List.range cap).map fun i => match V i with | .bool b => b | _ => false, D, ⟨isSl_of_cells ?_ (fun i v hv => ?_), ?_, hl, hm', fun h => by cases h⟩, by simp, fun _ => ?_⟩
    · simp [List.length_take]; omega
    · rw [List.getElem?_take] at hv
      split at hv
      · rename_i hi
        simp only [List.getElem?_map, List.getElem?_range (show i < cap by omega), Option.map_some, Option.some.injEq] at hv
        obtain ⟨b, hb⟩ := hb i (by omega)
        rw [hb] at hv
        simp only at hv
        rw [(hV i (by omega)).1, hb, hv]
      · cases hv
    · simp [List.length_take]; omega
    · simp only [Prod.mk.injEq] at hx
      exact hx.1

theorem okWide_array2 {r : Reach} {base : Nat} {v : Value} (ht : P.underlying t = some (.array 2 e)) (h : Value.okWide P w r base t v) : ∃ cs, v = .agg cs ∧ cs.size = P.cellsOf t := by
  simp only [Value.okWide, ht] at h
  obtain ⟨cs, h1, h2, _⟩ := h
  exact ⟨cs, h1, h2⟩
theorem open_pair_arg {r : Reach} {base : Nat} {v : Value} {k : IntKind} (ht : P.underlying t = some (.array 2 e)) (he : P.underlying e = some (.int k)) (hc : P.cellsOf t = 2) (hce : P.cellsOf e = 1) (hv : Value.okWide P w r base t v) (h : DataW.Trod enc P w 0 spare held t v d p) :
    ∃ n0 n1 : Int, v = .agg #[.int k n0, .int k n1] ∧ (Lit.int k n0).wf = true ∧ (Lit.int k n1).wf = true := by
  obtain ⟨cs, rfl, hcs⟩ := okWide_array2 ht hv
  rw [hc] at hcs
  obtain ⟨c0, c1, rfl⟩ := Joins.array2 hcs
  obtain ⟨fuel, hf⟩ := h
  obtain ⟨xs, m, _, _, hl, hx, hg⟩ := DataW.trod_array ht hf
  have g0 := hg 0 (by omega)
  have g1 := hg 1 (by omega)
  rw [hce] at g0 g1
  rw [List.getElem?_eq_getElem (by omega)] at g0 g1
  obtain ⟨n0, e0, _, w0⟩ := DataW.trod_int he g0
  obtain ⟨n1, e1, _, w1⟩ := DataW.trod_int he g1
  simp [Value.cells] at e0 e1
  exact ⟨n0, n1, by rw [e0, e1], w0, w1⟩
end
end Go.Proofs.Ytdjhkiahpidldaa
