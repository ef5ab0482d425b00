/- Objects that are out, by definition; deeds in memory; keys of the map. -/
import Derived.Test.YthmkmjoeceghiaaK
import Derived.Maps.OwnSet
import Derived.DeepKeys4
import Derived.Laws.AppendOwn
import Derived.Below
import Derived.Laws.StructEq
namespace Go.Proofs.Ythmkmjoeceghiaa
open Go.RowKit

abbrev encI : Int → Value := .int .i64
abbrev Ob := Int × Int × Int
abbrev Dd := Int × Ob
def IsI (n : Int) : Prop := -9223372036854775808 ≤ n ∧ n ≤ 9223372036854775807
def WfO (o : Ob) : Prop := IsI o.1 ∧ IsI o.2.1 ∧ IsI o.2.2
abbrev obV (o : Ob) : Value := .agg #[.int .i64 o.1, .int .i64 o.2.1, .int .i64 o.2.2]
abbrev ddV (d : Dd) : Value := .agg #[.int .i64 d.1, .int .i64 d.2.1, .int .i64 d.2.2.1, .int .i64 d.2.2.2]
def obCells (o : Ob) : List Value := [.int .i64 o.1, .int .i64 o.2.1, .int .i64 o.2.2]
def ddCells (d : Dd) : List Value := [.int .i64 d.1, .int .i64 d.2.1, .int .i64 d.2.2.1, .int .i64 d.2.2.2]
/-- does a come ahead of b? -/
def ahead (a b : Ob) : Bool := if a.1 ≠ b.1 then decide (a.1 < b.1) else if a.2.1 ≠ b.2.1 then decide (a.2.1 < b.2.1) else decide (a.2.2 < b.2.2)
def putL (S : List Ob) (o : Ob) : List Ob := S.takeWhile (fun x => ahead x o) ++ o :: S.dropWhile (fun x => ahead x o)
def dropL (S : List Ob) (o : Ob) : List Ob := S.filter (fun x => decide (x ≠ o))
/-- the error of a deed, S being out -/
def doE (S : List Ob) (d : Dd) : Int :=
  if d.1 < 1 ∨ 4 < d.1 ∨ (d.1 = 2 ∧ d.2 ≠ (0, 0, 0)) then 2 else if d.1 = 2 then 0 else if decide (d.2 ∈ S) ≠ decide (d.1 = 3) then 270 else 0
/-- what is out behind it -/
def doS (S : List Ob) (d : Dd) : List Ob := if doE S d ≠ 0 then S else if d.1 = 1 then putL S d.2 else if d.1 = 3 then dropL S d.2 else S
theorem mem_putL (S : List Ob) (o x : Ob) : x ∈ putL S o ↔ x = o ∨ x ∈ S := by
  have h := List.takeWhile_append_dropWhile (p := fun x => ahead x o) (l := S)
  unfold putL
  rw [List.mem_append, List.mem_cons]
  conv => rhs; rw [← h, List.mem_append]
  constructor
  · rintro (h | h | h) <;> simp [h]
  · rintro (h | h | h) <;> simp [h]
theorem mem_dropL (S : List Ob) (o x : Ob) : x ∈ dropL S o ↔ x ∈ S ∧ x ≠ o := by simp [dropL]
theorem len_putL (S : List Ob) (o : Ob) : (putL S o).length = S.length + 1 := by
  have h := congrArg List.length (List.takeWhile_append_dropWhile (p := fun x => ahead x o) (l := S))
  simp only [putL, List.length_append, List.length_cons] at h ⊢; omega
theorem len_dropL (S : List Ob) (o : Ob) : (dropL S o).length ≤ S.length := List.length_filter_le _ _
theorem len_doS (S : List Ob) (d : Dd) : (doS S d).length ≤ S.length + 1 := by
  unfold doS
  split
  · omega
  · split
    · rw [len_putL]; exact Nat.le_refl _
    · split
      · have := len_dropL S d.2; omega
      · omega
theorem mem_doS {S : List Ob} {d : Dd} {x : Ob} (h : x ∈ doS S d) : x = d.2 ∨ x ∈ S := by
  unfold doS at h
  split at h
  · exact .inr h
  · split at h
    · exact (mem_putL _ _ _).1 h
    · split at h
      · exact .inr ((mem_dropL _ _ _).1 h).1
      · exact .inr h
/-- what is out ahead of deed k -/
def stAt (l : List Dd) (k : Nat) : List Ob := (l.take k).foldl doS []
theorem stAt_succ {l : List Dd} {k : Nat} {d : Dd} (h : l[k]? = some d) : stAt l (k + 1) = doS (stAt l k) d := by
  unfold stAt; rw [take_succ h, List.foldl_append]; rfl
theorem stAt_len (l : List Dd) : ∀ k, (stAt l k).length ≤ k
  | 0 => by simp [stAt]
  | k + 1 => by
    by_cases h : k < l.length
    · rw [stAt_succ (List.getElem?_eq_getElem h)]
      have := len_doS (stAt l k) l[k]
      have := stAt_len l k
      omega
    · have e : stAt l (k + 1) = stAt l k := by unfold stAt; rw [List.take_of_length_le (by omega), List.take_of_length_le (by omega)]
      rw [e]; have := stAt_len l k; omega
/-- Play: where one can't be, if one can't -/
def playFrom (S : List Ob) (i : Nat) : List Dd → Int × Int
  | [] => (0, 0)
  | d :: l => if doE S d ≠ 0 then ((i : Int), doE S d) else playFrom (doS S d) (i + 1) l
def playR (l : List Dd) : Int × Int := playFrom [] 0 l
/-- all deeds ahead of k are done without an error -/
def okTo (l : List Dd) (k : Nat) : Prop := ∀ j d, j < k → l[j]? = some d → doE (stAt l j) d = 0
theorem okTo_zero (l : List Dd) : okTo l 0 := fun j d h => by omega
theorem okTo_succ {l : List Dd} {k : Nat} {d : Dd} (h : okTo l k) (hd : l[k]? = some d) (he : doE (stAt l k) d = 0) : okTo l (k + 1) := fun j e hj hl => by
  by_cases hjk : j = k
  · subst hjk; rw [hd] at hl; cases hl; exact he
  · exact h j e (by omega) hl
theorem playR_from {l : List Dd} : ∀ k, k ≤ l.length → okTo l k → playR l = playFrom (stAt l k) k (l.drop k)
  | 0, _, _ => by simp [playR, stAt]
  | k + 1, hk, h => by
    have hl := List.getElem?_eq_getElem (show k < l.length by omega)
    rw [playR_from k (by omega) (fun j d hj => h j d (by omega)), List.drop_eq_getElem_cons (by omega), stAt_succ hl]
    have := h k l[k] (by omega) hl
    simp [playFrom, this]
theorem playR_bad {l : List Dd} {k : Nat} {d : Dd} (h : okTo l k) (hd : l[k]? = some d) (he : doE (stAt l k) d ≠ 0) : playR l = ((k : Int), doE (stAt l k) d) := by
  obtain ⟨hk, rfl⟩ := List.getElem?_eq_some_iff.1 hd
  rw [playR_from k (by omega) h, List.drop_eq_getElem_cons hk]
  simp [playFrom, he]
theorem playR_ok {l : List Dd} (h : okTo l l.length) : playR l = (0, 0) := by
  rw [playR_from l.length (Nat.le_refl _) h, List.drop_length]; rfl

/-- the deeds l lie at a -/
def IsDeeds (w : World) (a : Option Addr) (l : List Dd) : Prop :=
  l ≠ [] → ∃ g off, a = some ⟨g, off, none⟩ ∧ ∀ (k : Nat) (c : Dd), l[k]? = some c → w.cell? ⟨g, off + k * 4, none⟩ = some (.int .i64 c.1) ∧ w.cell? ⟨g, off + k * 4 + 1, none⟩ = some (.int .i64 c.2.1) ∧
    w.cell? ⟨g, off + k * 4 + 2, none⟩ = some (.int .i64 c.2.2.1) ∧ w.cell? ⟨g, off + k * 4 + 3, none⟩ = some (.int .i64 c.2.2.2)
theorem IsDeeds.below {w w' : World} {a : Option Addr} {l : List Dd} (h : IsDeeds w a l) (hb : Below w.heap.size w w') : IsDeeds w' a l := fun hne => by
  obtain ⟨g, off, rfl, hc⟩ := h hne
  exact ⟨g, off, rfl, fun k c hx => ⟨below_cell hb (Nat.le_refl _) (hc k c hx).1, below_cell hb (Nat.le_refl _) (hc k c hx).2.1, below_cell hb (Nat.le_refl _) (hc k c hx).2.2.1, below_cell hb (Nat.le_refl _) (hc k c hx).2.2.2⟩⟩
def WfD (l : List Dd) : Prop := ∀ d ∈ l, WfO d.2

/-! ### the map's keys -/
theorem laidOut : laidOutB Try.prog = true := by kernel_rfl
theorem row30 : (30 : TypeId) < Try.prog.types.size := of_decide_eq_true (by kernel_rfl)
theorem wide30 : (match Try.prog.underlying 30 with | some (.array _ _) | some (.struct _) => true | _ => false) = true := by rw [Try.underlying30]
set_option maxRecDepth 1000000 in
theorem law30 : Maps.Keyed Try.prog 30 := Maps.Keyed.of_law (deep_law_laid laidOut (m := 2) (by omega) row30 (by kernel_rfl) wide30)
/-- what an object reads as, as a key -/
def kl (o : Ob) : Lit := .string (keyBytes [.int .i64 o.1, .int .i64 o.2.1, .int .i64 o.2.2])
theorem lit_wf {n : Int} (h : IsI n) : (Lit.int .i64 n).wf = true := by
  unfold IsI at h
  simpa [Lit.wf, IntKind.min, IntKind.max, IntKind.signed, IntKind.bits] using h
theorem key_of {o : Ob} (h : WfO o) : keyOf Try.prog 30 (obV o) = some (kl o) := by
  have hk : Try.prog.keyType 30 = true := by kernel_rfl
  have hc : Try.prog.cellsOf 30 = 3 := by kernel_rfl
  have hc3 : Try.prog.cellsOf 3 = 1 := by kernel_rfl
  obtain ⟨m, hm⟩ : ∃ m, Try.prog.types.size = m + 1 := ⟨_, (by kernel_rfl : Try.prog.types.size = (Try.prog.types.size - 1) + 1)⟩
  have hf : (obV o).formed Try.prog 30 = true := by simp [Value.formed, Try.underlying30, hc]
  have h1 := lit_wf h.1
  have h2 := lit_wf h.2.1
  have h3 := lit_wf h.2.2
  unfold keyOf
  rw [Try.underlying30]
  simp only [hk, hf, Bool.and_self, if_true]
  rw [hm]
  simp [Program.keyLits, Try.underlying30, Try.underlying3, hc, hc3, h1, h2, h3, kl, Value.cells]
theorem kl_inj {a b : Ob} (ha : WfO a) (hb : WfO b) (h : kl a = kl b) : a = b := by
  have h1 := key_of ha
  have h2 := key_of hb
  rw [h] at h1
  have := law30.inj h1 h2
  simp at this
  obtain ⟨a0, a1, a2⟩ := a
  obtain ⟨b0, b1, b2⟩ := b
  simpa using this
theorem isKey (o : Ob) : WideAt.IsKeyLit (kl o) := trivial
end Go.Proofs.Ythmkmjoeceghiaa
