/- What a slice of calls, of lists, of picks, a script reads as, in one value; nil slices have no room. -/
import Derived.Test.YtdjhkiahpidldaaAD
import Derived.Test.YtdjhkiahpidldaaAC
import Derived.Test.YtdjhkiahpidldaaZ
import Derived.Test.YtdjhkiahpidldaaS
import Derived.Test.YtdjhkiahpidldaaH
import Derived.Deep.OwnRows
namespace Go.Proofs.Ytdjhkiahpidldaa
open Go.RowKit

def CallsV (l : List Cl) (v : Value) (w : World) : Prop := ∃ a c, v = .slice a l.length c ∧ IsCalls w a l ∧ (a = none → c = 0)
def ListsV (ll : List (List Cl)) (v : Value) (w : World) : Prop := ∃ g c, v = .slice (some ⟨g, 0, none⟩) ll.length c ∧ ∀ (i : Nat) (l : List Cl), ll[i]? = some l → ∃ lv, w.cell? ⟨g, i, none⟩ = some lv ∧ CallsV l lv w
def PicksV (xs : List Int) (v : Value) (w : World) : Prop := ∃ a c, v = .slice a xs.length c ∧ IsSl encI w a xs ∧ (a = none → c = 0)
def ScrV (s : Scr) (v : Value) (w : World) : Prop := ∃ cv pv, v = .agg #[.int .i64 s.cpus, .int .i64 s.pages, cv, pv] ∧ ((cv = .slice none 0 0 ∧ s.calls = []) ∨ ListsV s.calls cv w) ∧ PicksV s.picks pv w
section
variable {w w' : World} {v : Value}
theorem CallsV.below {l : List Cl} (h : CallsV l v w) (hb : Below w.heap.size w w') : CallsV l v w' := by
  obtain ⟨a, c, e, h1, h2⟩ := h
  exact ⟨a, c, e, h1.below hb, h2⟩
theorem ListsV.below {ll : List (List Cl)} (h : ListsV ll v w) (hb : Below w.heap.size w w') : ListsV ll v w' := by
  obtain ⟨g, c, e, h1⟩ := h
  exact ⟨g, c, e, fun i l hi => by
    obtain ⟨lv, h2, h3⟩ := h1 i l hi
    exact ⟨lv, below_cell hb (Nat.le_refl _) h2, h3.below hb⟩⟩
theorem PicksV.below {xs : List Int} (h : PicksV xs v w) (hb : Below w.heap.size w w') : PicksV xs v w' := by
  obtain ⟨a, c, e, h1, h2⟩ := h
  exact ⟨a, c, e, h1.below hb, h2⟩
theorem ScrV.below {s : Scr} (h : ScrV s v w) (hb : Below w.heap.size w w') : ScrV s v w' := by
  obtain ⟨cv, pv, e, h1, h2⟩ := h
  exact ⟨cv, pv, e, h1.elim Or.inl (fun h => Or.inr (h.below hb)), h2.below hb⟩
theorem ScrV.at {s : Scr} (h : ScrV s v w) (hl : s.calls.length ≤ 100) (hll : ∀ l ∈ s.calls, l.length ≤ 100) : ScrAt w v s ∧ ScrNil w v := by
  obtain ⟨cv, pv, rfl, h1, ⟨pa, pc, rfl, p1, p2⟩⟩ := h
  have hll' : ∀ l ∈ s.calls, l.length ≤ 9223372036854775807 := fun l h => by have := hll l h; omega
  rcases h1 with ⟨rfl, h0⟩ | ⟨g, c, rfl, h1⟩
  · refine ⟨⟨⟨none, 0, pa, pc, by rw [h0]; rfl, fun hne => absurd h0 hne, p1⟩, by omega, hll'⟩, fun c0 c1 a n cc ap m cp hv => ?_⟩
    simp only [Value.agg.injEq, Array.mk.injEq, List.cons.injEq, Value.slice.injEq, and_true] at hv
    obtain ⟨_, _, ⟨rfl, rfl, rfl⟩, ⟨rfl, rfl, rfl⟩⟩ := hv
    exact ⟨p2, fun g off ha => by cases ha⟩
  · refine ⟨⟨⟨some ⟨g, 0, none⟩, c, pa, pc, rfl, fun hne => ⟨g, 0, rfl, fun i l hi => ?_⟩, p1⟩, by omega, hll'⟩, fun c0 c1 a n cc ap m cp hv => ?_⟩
    · obtain ⟨lv, h2, la, lc, rfl, h3, _⟩ := h1 i l hi
      exact ⟨la, lc, by rw [Nat.zero_add]; exact h2, h3⟩
    · simp only [Value.agg.injEq, Array.mk.injEq, List.cons.injEq, Value.slice.injEq, and_true] at hv
      obtain ⟨_, _, ⟨rfl, rfl, rfl⟩, ⟨rfl, rfl, rfl⟩⟩ := hv
      refine ⟨p2, fun g' off ha i hi la k lc hc hla => ?_⟩
      obtain ⟨rfl, rfl⟩ : g = g' ∧ 0 = off := by simpa using ha
      obtain ⟨lv, h2, la', lc', rfl, h3, h4⟩ := h1 i _ (List.getElem?_eq_getElem hi)
      rw [Nat.zero_add, h2] at hc
      injection hc with hc
      injection hc with e1 e2 e3
      rw [← e3]; exact h4 (e1.trans hla)
end
theorem madeCells_get (z : Array Value) {n i : Nat} (h : i < n) : (madeCells z n)[i]? = some (z[i % z.size]!) := by
  unfold madeCells
  rw [Array.getElem?_map, Array.getElem?_range, if_pos h]; rfl
theorem blk_alloc (w : World) (cs : Array Value) (t : TypeId) : Blk (w.alloc (.cells cs t)) w.heap.size cs t := Blk.new w cs t
abbrev z4 : Array Value := #[.int .i64 0, .int .i64 0, .int .i64 0, .int .i64 0]
theorem z4_at (i : Nat) : z4[i % z4.size]! = .int .i64 0 := by
  have h : i % z4.size < 4 := Nat.mod_lt _ (by decide)
  generalize i % z4.size = j at h
  have : j = 0 ∨ j = 1 ∨ j = 2 ∨ j = 3 := by omega
  rcases this with rfl | rfl | rfl | rfl <;> rfl
theorem callsV_made (w : World) (n m : Nat) (hm : m = n * 4) : CallsV (List.replicate n (0, 0, 0, 0)) (.slice (some ⟨w.heap.size, 0, none⟩) n n) (w.alloc (.cells (madeCells z4 m) 44)) := by
  refine ⟨_, n, by rw [List.length_replicate], fun _ => ⟨w.heap.size, 0, rfl, fun k c hk => ?_⟩, fun h => by cases h⟩
  have hkn := (List.getElem?_eq_some_iff.1 hk).1
  rw [List.length_replicate] at hkn
  obtain rfl : c = (0, 0, 0, 0) := by
    rw [List.getElem?_replicate, if_pos hkn] at hk
    exact (Option.some.inj hk).symm
  have hB := blk_alloc w (madeCells z4 m) 44
  have at_ : ∀ j, j < 4 → (w.alloc (.cells (madeCells z4 m) 44)).cell? ⟨w.heap.size, 0 + k * 4 + j, none⟩ = some (.int .i64 0) := fun j hj => hB.cell (by rw [madeCells_get z4 (by omega), z4_at])
  exact ⟨at_ 0 (by omega), at_ 1 (by omega), at_ 2 (by omega), at_ 3 (by omega)⟩
theorem picksV_made (w : World) (n : Nat) (hn : n ≤ 100000) : PicksV (List.replicate n 0) (.slice (some ⟨w.heap.size, 0, none⟩) n n) (w.alloc (.cells (madeCells #[.int .i64 0] n) 3)) := by
  refine ⟨_, n, by rw [List.length_replicate], ⟨by rw [List.length_replicate]; omega, fun _ => ⟨w.heap.size, 0, rfl, fun i x hx => ?_⟩⟩, fun h => by cases h⟩
  have hin := (List.getElem?_eq_some_iff.1 hx).1
  rw [List.length_replicate] at hin
  obtain rfl : x = 0 := by
    rw [List.getElem?_replicate, if_pos hin] at hx
    exact (Option.some.inj hx).symm
  exact (blk_alloc w _ 3).cell (by rw [Nat.zero_add, madeCells_get _ hin]; simp [Nat.mod_one])
theorem listsV_made (w : World) (n : Nat) : ListsV (List.replicate n []) (.slice (some ⟨w.heap.size, 0, none⟩) n n) (w.alloc (.cells (madeCells #[.slice none 0 0] n) 42)) := by
  refine ⟨_, n, by rw [List.length_replicate], fun i l hi => ?_⟩
  have hin := (List.getElem?_eq_some_iff.1 hi).1
  rw [List.length_replicate] at hin
  obtain rfl : l = [] := by
    rw [List.getElem?_replicate, if_pos hin] at hi
    exact (Option.some.inj hi).symm
  exact ⟨.slice none 0 0, (blk_alloc w _ 42).cell (by rw [madeCells_get _ hin]; simp [Nat.mod_one]), none, 0, rfl, fun h => absurd rfl h, fun _ => rfl⟩
theorem callsV_one (w : World) (c : Cl) : CallsV [c] (.slice (some ⟨w.heap.size, 0, none⟩) 1 1) (w.alloc (.cells #[.int .i64 c.1, .int .i64 c.2.1, .int .i64 c.2.2.1, .int .i64 c.2.2.2] 44)) := by
  have hB := blk_alloc w #[.int .i64 c.1, .int .i64 c.2.1, .int .i64 c.2.2.1, .int .i64 c.2.2.2] 44
  refine ⟨_, 1, rfl, fun _ => ⟨w.heap.size, 0, rfl, fun k d hk => ?_⟩, fun h => by cases h⟩
  have hk1 := (List.getElem?_eq_some_iff.1 hk).1
  obtain rfl : k = 0 := by simp at hk1; exact hk1
  obtain rfl : c = d := by simpa using hk
  exact ⟨hB.cell rfl, hB.cell rfl, hB.cell rfl, hB.cell rfl⟩
theorem listsV_one {w : World} {l : List Cl} {v : Value} (h : CallsV l v w) : ListsV [l] (.slice (some ⟨w.heap.size, 0, none⟩) 1 1) (w.alloc (.cells #[v] 42)) := by
  refine ⟨_, 1, rfl, fun i d hi => ?_⟩
  have hi1 := (List.getElem?_eq_some_iff.1 hi).1
  obtain rfl : i = 0 := by simp at hi1; exact hi1
  obtain rfl : l = d := by simpa using hi
  exact ⟨v, (blk_alloc w #[v] 42).cell rfl, h.below ((Below.refl _ w).alloc (Nat.le_refl _) _)⟩
theorem picksV_one (w : World) (x : Int) : PicksV [x] (.slice (some ⟨w.heap.size, 0, none⟩) 1 1) (w.alloc (.cells #[.int .i64 x] 3)) := by
  refine ⟨_, 1, rfl, ⟨by simp, fun _ => ⟨w.heap.size, 0, rfl, fun i y hy => ?_⟩⟩, fun h => by cases h⟩
  have hi1 := (List.getElem?_eq_some_iff.1 hy).1
  obtain rfl : i = 0 := by simp at hi1; exact hi1
  obtain rfl : x = y := by simpa using hy
  exact (blk_alloc w #[.int .i64 x] 3).cell rfl
theorem picksV_nil (w : World) : PicksV [] (.slice none 0 0) w := ⟨none, 0, rfl, IsSl.nil, fun _ => rfl⟩
theorem make24 (n : Nat) (hn : n ≤ 100) (w : World) : (Instr.makeSlice 24 (.int .i64 n) (.int .i64 n)).run Try.prog w = .ok (.slice (some ⟨w.heap.size, 0, none⟩) n n) (w.alloc (.cells (madeCells #[.slice none 0 0] n) 42)) :=
  run_make_row' (P := Try.prog) 24 42 (.slice none 0 0) 24 Try.underlying24 info42 rfl .i64 .i64 n (by omega) (by omega) w
theorem make25 (n : Nat) (hn : n ≤ 100000) (w : World) : (Instr.makeSlice 25 (.int .i64 n) (.int .i64 n)).run Try.prog w = .ok (.slice (some ⟨w.heap.size, 0, none⟩) n n) (w.alloc (.cells (madeCells #[.int .i64 0] n) 3)) :=
  run_make_row' (P := Try.prog) 25 3 (.int .i64 0) 8 Try.underlying25 info3 rfl .i64 .i64 n (by omega) (by omega) w
theorem info44m : (Try.prog.info? 44).map (fun i => (i.zero, i.size, i.bytes)) = some (some (.agg #[.int .i64 0, .int .i64 0, .int .i64 0, .int .i64 0]), 4, 32) := by kernel_rfl
theorem make42 (n m : Nat) (hm : m = n * 4) (hn : n ≤ 100) (w : World) : (Instr.makeSlice 42 (.int .i64 n) (.int .i64 n)).run Try.prog w = .ok (.slice (some ⟨w.heap.size, 0, none⟩) n n) (w.alloc (.cells (madeCells z4 m) 44)) := by
  obtain ⟨i, hi, hz, hs, hb⟩ := info_parts info44m
  have := run_make (P := Try.prog) w 42 44 i _ Try.underlying42 hi hz .i64 .i64 (n : Int) (n : Int) (by omega) (Int.le_refl _) (by rw [hb]; omega) (by omega)
  simp only [Int.toNat_natCast, hs] at this
  rw [hm]; exact this
end Go.Proofs.Ytdjhkiahpidldaa
