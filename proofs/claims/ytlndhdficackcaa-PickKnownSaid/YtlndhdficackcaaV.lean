/- PickKnown: what is laid down. -/
import Derived.Test.YtlndhdficackcaaS
import Derived.Test.YtlndhdficackcaaO
namespace Go.Proofs.Ytlndhdficackcaa
open Go.RowKit Go.Shelf

theorem arg_block {α : Type} {enc : α → Value} {W : World} {g n : Nat} {cs : Array Value} {t : TypeId} (ys : List α) (hb : W.heap[g]? = some (.cells cs t)) (hn : ys.length = n) (hl : n ≤ 1000) (hc : cs.toList = ys.map enc) :
    ArgSl enc W (some ⟨g, 0, none⟩) n n ys := by
  subst hn
  refine ⟨⟨by omega, fun _ => ⟨g, 0, rfl, fun i x hx => ?_⟩⟩, rfl, Nat.le_refl _, by omega, fun h => by cases h⟩
  have : cs[i]? = some (enc x) := by rw [← Array.getElem?_toList, hc, List.getElem?_map, hx]; rfl
  simp [World.cell?, hb, this]
theorem arg_nil {α : Type} {enc : α → Value} {W : World} : ArgSl enc W none 0 0 ([] : List α) := ⟨IsSl.nil, rfl, Nat.le_refl _, by omega, fun _ => rfl⟩
theorem ArgSl.below {α : Type} {enc : α → Value} {W W' : World} {a : Option Addr} {len cap : Nat} {ys : List α} (h : ArgSl enc W a len cap ys) (hb : Below W.heap.size W W') : ArgSl enc W' a len cap ys :=
  ⟨h.hsl.below hb, h.hlen, h.hle, h.hmax, h.hnil⟩
theorem cell_block {W : World} {g : Nat} {cs : Array Value} {t : TypeId} (hb : W.heap[g]? = some (.cells cs t)) {i : Nat} {v : Value} (h : cs[i]? = some v) : W.cell? ⟨g, i, none⟩ = some v := by
  simp [World.cell?, hb, h]
theorem al_heap (w : World) (o : Obj) : (w.alloc o).heap = w.heap.push o := rfl
def W8 (w : World) : World := ((((((((w.alloc (Obj.cells #[Value.bool false] 4)).alloc (Obj.cells #[Value.bool true] 4)).alloc
                        (Obj.cells #[Value.bool false, Value.bool false] 4)).alloc
                    (Obj.cells #[Value.bool true, Value.bool false, Value.bool true, Value.bool true] 4)).alloc
                (Obj.cells #[Value.bool false, Value.bool true, Value.bool false] 4)).alloc
            (Obj.cells (madeCells #[Value.bool false] 50) 4)).alloc
        (Obj.cells
          #[Value.slice none 0 0, Value.slice (some { block := w.heap.size, off := 0 }) 1 1,
            Value.slice (some { block := w.heap.size + 1, off := 0 }) 1 1,
            Value.slice (some { block := w.heap.size + 1 + 1, off := 0 }) 2 2,
            Value.slice (some { block := w.heap.size + 1 + 1 + 1, off := 0 }) 4 4,
            Value.slice (some { block := w.heap.size + 1 + 1 + 1 + 1, off := 0 }) 3 3,
            Value.slice (some { block := w.heap.size + 1 + 1 + 1 + 1 + 1, off := 0 }) 50 50]
          22)).alloc
    (Obj.cells
      #[Value.int IntKind.i64 (-9223372036854775808), Value.int IntKind.i64 (-5), Value.int IntKind.i64 (-1),
        Value.int IntKind.i64 0, Value.int IntKind.i64 1, Value.int IntKind.i64 2, Value.int IntKind.i64 3,
        Value.int IntKind.i64 7, Value.int IntKind.i64 9223372036854775807]
      3))
theorem w8_0 (w : World) : (W8 w).heap[w.heap.size]? = some (.cells #[.bool false] 4) := by
  simp only [W8, al_heap, Array.getElem?_push, Array.size_push]
  repeat rw [if_neg (by omega)]
  simp
theorem w8_1 (w : World) : (W8 w).heap[w.heap.size + 1]? = some (.cells #[.bool true] 4) := by
  simp only [W8, al_heap, Array.getElem?_push, Array.size_push]
  simp
theorem w8_2 (w : World) : (W8 w).heap[w.heap.size + 1 + 1]? = some (.cells #[.bool false, .bool false] 4) := by
  simp only [W8, al_heap, Array.getElem?_push, Array.size_push]
  simp
theorem w8_3 (w : World) : (W8 w).heap[w.heap.size + 1 + 1 + 1]? = some (.cells #[.bool true, .bool false, .bool true, .bool true] 4) := by
  simp only [W8, al_heap, Array.getElem?_push, Array.size_push]
  simp
theorem w8_4 (w : World) : (W8 w).heap[w.heap.size + 1 + 1 + 1 + 1]? = some (.cells #[.bool false, .bool true, .bool false] 4) := by
  simp only [W8, al_heap, Array.getElem?_push, Array.size_push]
  simp
theorem w8_5 (w : World) : (W8 w).heap[w.heap.size + 1 + 1 + 1 + 1 + 1]? = some (.cells (madeCells #[.bool false] 50) 4) := by
  simp only [W8, al_heap, Array.getElem?_push, Array.size_push]
  simp
theorem w8_6 (w : World) : (W8 w).heap[w.heap.size + 1 + 1 + 1 + 1 + 1 + 1]? = some (.cells #[.slice none 0 0, .slice (some ⟨w.heap.size, 0, none⟩) 1 1, .slice (some ⟨w.heap.size + 1, 0, none⟩) 1 1, .slice (some ⟨w.heap.size + 1 + 1, 0, none⟩) 2 2, .slice (some ⟨w.heap.size + 1 + 1 + 1, 0, none⟩) 4 4, .slice (some ⟨w.heap.size + 1 + 1 + 1 + 1, 0, none⟩) 3 3, .slice (some ⟨w.heap.size + 1 + 1 + 1 + 1 + 1, 0, none⟩) 50 50] 22) := by
  simp only [W8, al_heap, Array.getElem?_push, Array.size_push]
  simp
theorem w8_7 (w : World) : (W8 w).heap[w.heap.size + 1 + 1 + 1 + 1 + 1 + 1 + 1]? = some (.cells #[.int .i64 (-9223372036854775808), .int .i64 (-5), .int .i64 (-1), .int .i64 0, .int .i64 1, .int .i64 2, .int .i64 3, .int .i64 7, .int .i64 9223372036854775807] 3) := by
  simp only [W8, al_heap, Array.getElem?_push, Array.size_push]
  simp
theorem W8_below (w : World) : Below w.heap.size w (W8 w) := by unfold W8; exact (by repeat (first | exact Below.refl _ _ | assumption | refine Below.setCell ?_ (by first | omega | (simp; done) | (simp; omega)) _ | refine Below.drew ?_ | refine Below.alloc ?_ (by first | omega | (simp; done) | (simp; omega)) _ | refine Below.trans ?_ (Below.mono (by assumption) (by first | omega | (simp; done) | (simp; omega)))))
theorem ends_at (w : World) : ∀ k, k < 9 → ∃ e : Int, (-9223372036854775808 ≤ e ∧ e ≤ 9223372036854775807) ∧ (W8 w).cell? ⟨w.heap.size + 1 + 1 + 1 + 1 + 1 + 1 + 1, k, none⟩ = some (.int .i64 e) := by
  intro k hk
  have : k = 0 ∨ k = 1 ∨ k = 2 ∨ k = 3 ∨ k = 4 ∨ k = 5 ∨ k = 6 ∨ k = 7 ∨ k = 8 := by omega
  rcases this with rfl | rfl | rfl | rfl | rfl | rfl | rfl | rfl | rfl <;> exact ⟨_, by decide, cell_block (w8_7 w) rfl⟩
theorem lists_at (w : World) : ∀ k, k < 7 → ∃ a len cap ys, (W8 w).cell? ⟨w.heap.size + 1 + 1 + 1 + 1 + 1 + 1, k, none⟩ = some (.slice a len cap) ∧ ArgSl encB (W8 w) a len cap ys ∧ len ≤ 50 := by
  intro k hk
  have : k = 0 ∨ k = 1 ∨ k = 2 ∨ k = 3 ∨ k = 4 ∨ k = 5 ∨ k = 6 := by omega
  rcases this with rfl | rfl | rfl | rfl | rfl | rfl | rfl
  · exact ⟨_, _, _, _, cell_block (w8_6 w) rfl, arg_nil, by omega⟩
  · exact ⟨_, _, _, _, cell_block (w8_6 w) rfl, arg_block [false] (w8_0 w) rfl (by omega) rfl, by omega⟩
  · exact ⟨_, _, _, _, cell_block (w8_6 w) rfl, arg_block [true] (w8_1 w) rfl (by omega) rfl, by omega⟩
  · exact ⟨_, _, _, _, cell_block (w8_6 w) rfl, arg_block [false, false] (w8_2 w) rfl (by omega) rfl, by omega⟩
  · exact ⟨_, _, _, _, cell_block (w8_6 w) rfl, arg_block [true, false, true, true] (w8_3 w) rfl (by omega) rfl, by omega⟩
  · exact ⟨_, _, _, _, cell_block (w8_6 w) rfl, arg_block [false, true, false] (w8_4 w) rfl (by omega) rfl, by omega⟩
  · exact ⟨_, _, _, _, cell_block (w8_6 w) rfl, arg_block (List.replicate 50 false) (w8_5 w) rfl (by omega) (by simp [madeCells, encB, Nat.mod_one]; rfl), by omega⟩
def W7 (w : World) : World := (((((((w.alloc (Obj.cells #[.int .i64 0] 3)).alloc (Obj.cells #[.int .i64 1, .int .i64 0] 3)).alloc (Obj.cells #[.int .i64 0, .int .i64 1, .int .i64 2, .int .i64 0, .int .i64 1, .int .i64 2] 3)).alloc (Obj.cells #[.int .i64 0, .int .i64 0, .int .i64 0, .int .i64 1] 3)).alloc (Obj.cells #[.int .i64 1, .int .i64 1, .int .i64 1, .int .i64 0] 3)).alloc (Obj.cells #[.int .i64 9, .int .i64 (-1), .int .i64 9] 3)).alloc (Obj.cells #[.slice none 0 0, .slice (some ⟨w.heap.size, 0, none⟩) 1 1, .slice (some ⟨w.heap.size + 1, 0, none⟩) 2 2, .slice (some ⟨w.heap.size + 1 + 1, 0, none⟩) 6 6, .slice (some ⟨w.heap.size + 1 + 1 + 1, 0, none⟩) 4 4, .slice (some ⟨w.heap.size + 1 + 1 + 1 + 1, 0, none⟩) 4 4, .slice (some ⟨w.heap.size + 1 + 1 + 1 + 1 + 1, 0, none⟩) 3 3] 27))
theorem w7_0 (w : World) : (W7 w).heap[w.heap.size]? = some (.cells #[.int .i64 0] 3) := by
  simp only [W7, al_heap, Array.getElem?_push, Array.size_push]
  repeat rw [if_neg (by omega)]
  simp
theorem w7_1 (w : World) : (W7 w).heap[w.heap.size + 1]? = some (.cells #[.int .i64 1, .int .i64 0] 3) := by
  simp only [W7, al_heap, Array.getElem?_push, Array.size_push]
  simp
theorem w7_2 (w : World) : (W7 w).heap[w.heap.size + 1 + 1]? = some (.cells #[.int .i64 0, .int .i64 1, .int .i64 2, .int .i64 0, .int .i64 1, .int .i64 2] 3) := by
  simp only [W7, al_heap, Array.getElem?_push, Array.size_push]
  simp
theorem w7_3 (w : World) : (W7 w).heap[w.heap.size + 1 + 1 + 1]? = some (.cells #[.int .i64 0, .int .i64 0, .int .i64 0, .int .i64 1] 3) := by
  simp only [W7, al_heap, Array.getElem?_push, Array.size_push]
  simp
theorem w7_4 (w : World) : (W7 w).heap[w.heap.size + 1 + 1 + 1 + 1]? = some (.cells #[.int .i64 1, .int .i64 1, .int .i64 1, .int .i64 0] 3) := by
  simp only [W7, al_heap, Array.getElem?_push, Array.size_push]
  simp
theorem w7_5 (w : World) : (W7 w).heap[w.heap.size + 1 + 1 + 1 + 1 + 1]? = some (.cells #[.int .i64 9, .int .i64 (-1), .int .i64 9] 3) := by
  simp only [W7, al_heap, Array.getElem?_push, Array.size_push]
  simp
theorem w7_6 (w : World) : (W7 w).heap[w.heap.size + 1 + 1 + 1 + 1 + 1 + 1]? = some (.cells #[.slice none 0 0, .slice (some ⟨w.heap.size, 0, none⟩) 1 1, .slice (some ⟨w.heap.size + 1, 0, none⟩) 2 2, .slice (some ⟨w.heap.size + 1 + 1, 0, none⟩) 6 6, .slice (some ⟨w.heap.size + 1 + 1 + 1, 0, none⟩) 4 4, .slice (some ⟨w.heap.size + 1 + 1 + 1 + 1, 0, none⟩) 4 4, .slice (some ⟨w.heap.size + 1 + 1 + 1 + 1 + 1, 0, none⟩) 3 3] 27) := by
  simp only [W7, al_heap, Array.getElem?_push, Array.size_push]
  simp
theorem W7_below (w : World) : Below w.heap.size w (W7 w) := by unfold W7; exact (by repeat (first | exact Below.refl _ _ | assumption | refine Below.setCell ?_ (by first | omega | (simp; done) | (simp; omega)) _ | refine Below.drew ?_ | refine Below.alloc ?_ (by first | omega | (simp; done) | (simp; omega)) _ | refine Below.trans ?_ (Below.mono (by assumption) (by first | omega | (simp; done) | (simp; omega)))))
theorem picks_at (w : World) : ∀ k, k < 7 → ∃ a len cap ys, (W7 w).cell? ⟨w.heap.size + 1 + 1 + 1 + 1 + 1 + 1, k, none⟩ = some (.slice a len cap) ∧ ArgSl encI (W7 w) a len cap ys := by
  intro k hk
  have : k = 0 ∨ k = 1 ∨ k = 2 ∨ k = 3 ∨ k = 4 ∨ k = 5 ∨ k = 6 := by omega
  rcases this with rfl | rfl | rfl | rfl | rfl | rfl | rfl
  · exact ⟨_, _, _, _, cell_block (w7_6 w) rfl, arg_nil⟩
  · exact ⟨_, _, _, _, cell_block (w7_6 w) rfl, arg_block [0] (w7_0 w) rfl (by omega) rfl⟩
  · exact ⟨_, _, _, _, cell_block (w7_6 w) rfl, arg_block [1, 0] (w7_1 w) rfl (by omega) rfl⟩
  · exact ⟨_, _, _, _, cell_block (w7_6 w) rfl, arg_block [0, 1, 2, 0, 1, 2] (w7_2 w) rfl (by omega) rfl⟩
  · exact ⟨_, _, _, _, cell_block (w7_6 w) rfl, arg_block [0, 0, 0, 1] (w7_3 w) rfl (by omega) rfl⟩
  · exact ⟨_, _, _, _, cell_block (w7_6 w) rfl, arg_block [1, 1, 1, 0] (w7_4 w) rfl (by omega) rfl⟩
  · exact ⟨_, _, _, _, cell_block (w7_6 w) rfl, arg_block [9, -1, 9] (w7_5 w) rfl (by omega) rfl⟩
end Go.Proofs.Ytlndhdficackcaa
