/- What Script answers, by definition; a script in memory. -/
import Derived.Test.YtdjhkiahpidldaaA
import Derived.Test.YtdjhkiahpidldaaY
import Derived.Deep.OwnRows
import Derived.Laws.Rows
import Derived.Deep.RegionHeld3
import Derived.Deep.AppendLies
import Derived.Deep.DrawnRows
namespace Go.Proofs.Ytdjhkiahpidldaa
open Go.RowKit

attribute [local go_sem ↓] Go.wp_at_zero Go.wp_at_succ
abbrev Cl := Int × Int × Int × Int
def clCells (c : Cl) : List Value := [.int .i64 c.1, .int .i64 c.2.1, .int .i64 c.2.2.1, .int .i64 c.2.2.2]
structure Scr where
  cpus : Int
  pages : Int
  calls : List (List Cl)
  picks : List Int

def nAt (b : List Int) (p : Nat) : Nat := (bt b p % 65).toNat
def callAt (b : List Int) (q : Nat) : Cl := (bt b q % 14, bt b (q + 1), bt b (q + 2) * 256 + bt b (q + 3), bt b (q + 4))
def callsFrom (b : List Int) (p n : Nat) : List Cl := (List.range n).map fun k => callAt b (p + 1 + 5 * k)
def pos (b : List Int) : Nat → Nat
  | 0 => 3
  | i + 1 => pos b i + 1 + 5 * nAt b (pos b i)
def cpusN (b : List Int) : Nat := (1 + bt b 0 % 8).toNat
def listAt (b : List Int) (i : Nat) : List Cl := callsFrom b (pos b i) (nAt b (pos b i))
def picksFrom (b : List Int) (p n : Nat) : List Int := (List.range n).map fun j => bt b (p + j)
def scr (b : List Int) : Scr where
  cpus := 1 + bt b 0 % 8
  pages := 1 + (bt b 1 * 256 + bt b 2) % 1024
  calls := (List.range (cpusN b)).map (listAt b)
  picks := picksFrom b (pos b (cpusN b)) (min (b.length - pos b (cpusN b)) 4096)

theorem nAt_bd {b : List Int} (h : IsBytes b) (p : Nat) : (nAt b p : Int) = bt b p % 65 ∧ nAt b p < 65 := by
  have := bt_bd h p
  unfold nAt; omega
theorem cpusN_bd {b : List Int} (h : IsBytes b) : (cpusN b : Int) = 1 + bt b 0 % 8 ∧ 1 ≤ cpusN b ∧ cpusN b ≤ 8 := by
  have := bt_bd h 0
  unfold cpusN; omega
theorem callsFrom_succ (b : List Int) (p n : Nat) : callsFrom b p (n + 1) = callsFrom b p n ++ [callAt b (p + 1 + 5 * n)] := by simp [callsFrom, List.range_succ]
theorem callsFrom_len (b : List Int) (p n : Nat) : (callsFrom b p n).length = n := by simp [callsFrom]
theorem picksFrom_succ (b : List Int) (p n : Nat) : picksFrom b p (n + 1) = picksFrom b p n ++ [bt b (p + n)] := by simp [picksFrom, List.range_succ]
theorem picksFrom_len (b : List Int) (p n : Nat) : (picksFrom b p n).length = n := by simp [picksFrom]

/-- the calls l lie at a -/
def IsCalls (w : World) (a : Option Addr) (l : List Cl) : Prop :=
  l ≠ [] → ∃ g off, a = some ⟨g, off, none⟩ ∧ ∀ (k : Nat) (c : Cl), l[k]? = some c → w.cell? ⟨g, off + k * 4, none⟩ = some (.int .i64 c.1) ∧ w.cell? ⟨g, off + k * 4 + 1, none⟩ = some (.int .i64 c.2.1) ∧
    w.cell? ⟨g, off + k * 4 + 2, none⟩ = some (.int .i64 c.2.2.1) ∧ w.cell? ⟨g, off + k * 4 + 3, none⟩ = some (.int .i64 c.2.2.2)
theorem IsCalls.keep {w w' : World} {a : Option Addr} {l : List Cl} (h : IsCalls w a l) (hk : ∀ b o v, a = some b → w.cell? ⟨b.block, o, none⟩ = some v → w'.cell? ⟨b.block, o, none⟩ = some v) : IsCalls w' a l := fun hne => by
  obtain ⟨g, off, rfl, hc⟩ := h hne
  exact ⟨g, off, rfl, fun k c hx => ⟨hk _ _ _ rfl (hc k c hx).1, hk _ _ _ rfl (hc k c hx).2.1, hk _ _ _ rfl (hc k c hx).2.2.1, hk _ _ _ rfl (hc k c hx).2.2.2⟩⟩
/-- the i-th list's slice, in its cell -/
def IsList (w : World) (c : Addr) (l : List Cl) : Prop := ∃ a cap, w.cell? c = some (.slice a l.length cap) ∧ IsCalls w a l

/-- block g holds cs, none frozen -/
def Blk (w : World) (g : Nat) (cs : Array Value) (t : TypeId) : Prop := w.heap[g]? = some (.cells cs t (0, 0))
theorem Blk.lt {w : World} {g : Nat} {cs : Array Value} {t : TypeId} (h : Blk w g cs t) : g < w.heap.size := (Array.getElem?_eq_some_iff.1 h).1
theorem Blk.cell {w : World} {g : Nat} {cs : Array Value} {t : TypeId} (h : Blk w g cs t) {i : Nat} {v : Value} (hv : cs[i]? = some v) : w.cell? ⟨g, i, none⟩ = some v := by
  unfold Blk at h; simp [World.cell?, h, hv]
theorem Blk.frozen {w : World} {g : Nat} {cs : Array Value} {t : TypeId} (h : Blk w g cs t) (i : Nat) : w.frozen? ⟨g, i, none⟩ = false := by
  unfold Blk at h; simp [World.frozen?, h]
theorem Blk.only {w w' : World} {g R : Nat} {cs : Array Value} {t : TypeId} (h : Blk w g cs t) (ho : Only R w w') (hn : g ≠ R) : Blk w' g cs t :=
  (ho.g.block g h.lt (fun e => hn (Option.some.inj e))).trans h
theorem Blk.grown {w w' : World} {g : Nat} {row : Option Nat} {cs : Array Value} {t : TypeId} (h : Blk w g cs t) (hg : w.grownBy w' row) (hn : some g ≠ row) : Blk w' g cs t :=
  (hg.block g h.lt hn).trans h
theorem Blk.alloc {w : World} {g : Nat} {cs : Array Value} {t : TypeId} (h : Blk w g cs t) (o : Obj) : Blk (w.alloc o) g cs t := h.grown (World.grownBy_alloc w o none) (by simp)
theorem Blk.new (w : World) (cs : Array Value) (t : TypeId) : Blk (w.alloc (.cells cs t)) w.heap.size cs t := heap_alloc_new w _
theorem Blk.set {w : World} {g : Nat} {cs : Array Value} {t : TypeId} (h : Blk w g cs t) (i : Nat) (v : Value) {cs' : Array Value} (e : cs.setIfInBounds i v = cs') : Blk (w.setCell ⟨g, i, none⟩ v) g cs' t := by
  subst e; exact heap_setCell_same w g i cs t v h
theorem Blk.setOther {w : World} {g : Nat} {cs : Array Value} {t : TypeId} (h : Blk w g cs t) {a : Addr} (ha : g ≠ a.block) (v : Value) : Blk (w.setCell a v) g cs t :=
  (Below.heap_setCell w a v g ha).trans h
theorem Rd.grown' {w0 : World} {a0 : Option Addr} {b : List Int} {R p : Nat} {w w' : World} {row : Option Nat} (h : Rd w0 a0 b R p w) (hg : w.grownBy w' row) (hn : some R ≠ row) (hw : Below w0.heap.size w0 w') : Rd w0 a0 b R p w' := by
  have e := hg.block R h.hlt hn
  obtain ⟨a, cap, hc, hr⟩ := h.hc
  exact ⟨h.hR, Nat.lt_of_lt_of_le h.hlt hg.size, hw, by rw [World.frozen?_of_block (w := w) e]; exact h.hfr, a, cap, by rw [World.cell?_of_block (w := w) e]; exact hc, hr⟩
theorem Rd.set {w0 : World} {a0 : Option Addr} {b : List Int} {R p : Nat} {w : World} (h : Rd w0 a0 b R p w) {g : Nat} (i : Nat) (v : Value) (hg : w0.heap.size ≤ g) (hn : R ≠ g) : Rd w0 a0 b R p (w.setCell ⟨g, i, none⟩ v) :=
  h.grown' (Only.set g i w v).g (by simpa using hn) (h.hw.setCell hg v)
theorem Rd.alloc {w0 : World} {a0 : Option Addr} {b : List Int} {R p : Nat} {w : World} (h : Rd w0 a0 b R p w) (o : Obj) : Rd w0 a0 b R p (w.alloc o) :=
  h.grown' (World.grownBy_alloc w o none) (by simp) (h.hw.alloc h.hw.size _)
/-- what stands at the head of Script's outer loop, k lists read -/
structure Outer (w0 : World) (a0 : Option Addr) (b : List Int) (V n : Nat) (pg : Int) (k : Nat) (f : Nat → Value) (w : World) : Prop where
  rd : Rd w0 a0 b (V + 1) (pos b k) w
  bV : Blk w V #[.int .i64 n, .int .i64 pg, .slice (some ⟨V + 2, 0, none⟩) n n, .slice none 0 0] 27
  row : w.rowIs (V + 2) 42 n f
  done : ∀ j, j < k → ∃ a cap, f j = .slice a (listAt b j).length cap ∧ IsCalls w a (listAt b j) ∧ ∀ x, a = some x → V + 2 < x.block
  rest : ∀ j, k ≤ j → f j = .slice none 0 0
/-- what stands in Script's inner loop, m calls of list k read; W1: the world at its beginning; v: the list -/
structure InX (b : List Int) (V n : Nat) (pg : Int) (k : Nat) (f : Nat → Value) (p : Nat) (W1 : World) (m : Nat) (v : Value) (w : World) : Prop where
  bV : Blk w V #[.int .i64 n, .int .i64 pg, .slice (some ⟨V + 2, 0, none⟩) n n, .slice none 0 0] 27
  row : w.rowIs (V + 2) 42 n (fun j => if j = k then v else f j)
  own : w.ownsRow W1.heap.size 44 4 v m ((callsFrom b p m).flatMap clCells)
  size : W1.heap.size ≤ w.heap.size
  big : V + 2 < W1.heap.size
  kept : ∀ g, g < W1.heap.size → g ≠ V + 1 → g ≠ V + 2 → w.heap[g]? = W1.heap[g]?
theorem InX.grown {b : List Int} {V n : Nat} {pg : Int} {k : Nat} {f : Nat → Value} {p : Nat} {W1 : World} {m : Nat} {v : Value} {w w' : World} {row : Option Nat} (h : InX b V n pg k f p W1 m v w) (hg : w.grownBy w' row)
    (hr : ∀ g, row = some g → g = V + 1 ∨ W1.heap.size ≤ g ∧ v.ownBlock ≠ some g) : InX b V n pg k f p W1 m v w' := by
  have hb := h.big
  have hs := h.size
  refine ⟨h.bV.grown hg (fun e => ?_), h.row.of_block (hg.block _ h.row.lt (fun e => ?_)), h.own.kept hg ?_, Nat.le_trans h.size hg.size, h.big, fun g h1 h2 h3 => (hg.block g (by omega) (fun e => ?_)).trans (h.kept g h1 h2 h3)⟩
  · rcases hr V e.symm with h | h <;> omega
  · rcases hr (V + 2) e.symm with h | h <;> omega
  · cases hv : v.ownBlock with
    | none => exact .inl rfl
    | some g =>
      right
      intro e
      have := (h.own.lt g hv).1
      rcases hr g e.symm with h | h
      · omega
      · exact h.2 hv
  · rcases hr g e.symm with h | h <;> omega
theorem InX.only {b : List Int} {V n : Nat} {pg : Int} {k : Nat} {f : Nat → Value} {p : Nat} {W1 : World} {m : Nat} {v : Value} {w w' : World} (h : InX b V n pg k f p W1 m v w) (ho : Only (V + 1) w w') : InX b V n pg k f p W1 m v w' :=
  h.grown ho.g (fun g e => .inl (Option.some.inj e).symm)
theorem InX.alloc {b : List Int} {V n : Nat} {pg : Int} {k : Nat} {f : Nat → Value} {p : Nat} {W1 : World} {m : Nat} {v : Value} {w : World} (h : InX b V n pg k f p W1 m v w) (o : Obj) : InX b V n pg k f p W1 m v (w.alloc o) :=
  h.grown (World.grownBy_alloc w o none) (fun g e => by cases e)
theorem InX.set {b : List Int} {V n : Nat} {pg : Int} {k : Nat} {f : Nat → Value} {p : Nat} {W1 : World} {m : Nat} {v : Value} {w : World} (h : InX b V n pg k f p W1 m v w) {T : Nat} (hT : W1.heap.size ≤ T) (hv : v.ownBlock ≠ some T) (i : Nat) (u : Value) : InX b V n pg k f p W1 m v (w.setCell ⟨T, i, none⟩ u) :=
  h.grown (Only.set T i w u).g (fun g e => .inr (by cases e; exact ⟨hT, hv⟩))
theorem frz_ad (w : World) (o : Obj) (i : Nat) {g : Nat} (h : g < w.heap.size) : (w.alloc o).drew.frozen? ⟨g, i, none⟩ = w.frozen? ⟨g, i, none⟩ := World.frozen?_of_block (w := w) (heap_alloc_old w o h)
theorem InX.next {b : List Int} {V n : Nat} {pg : Int} {k : Nat} {f : Nat → Value} {p : Nat} {W1 : World} {m : Nat} {v : Value} {w w1 : World} {o : Obj} {gg cc : Nat} {news : List Value} (h : InX b V n pg k f p W1 m v w) (hg : ((w.alloc o).drew).grownBy w1 v.ownBlock)
    (hown : w1.ownsRow W1.heap.size 44 4 (.slice (some ⟨gg, 0, none⟩) (m + 1) cc) (m + 1) ((callsFrom b p m).flatMap clCells ++ news)) (hn : news = clCells (callAt b (p + 1 + 5 * m))) :
    InX b V n pg k f p W1 (m + 1) (.slice (some ⟨gg, 0, none⟩) (m + 1) cc) (w1.setCell ⟨V + 2, k, none⟩ (.slice (some ⟨gg, 0, none⟩) (m + 1) cc)) := by
  have hb := h.big
  have hs := h.size
  have hv : ∀ g, g < W1.heap.size → some g ≠ v.ownBlock := fun g hg e => by have := (h.own.lt g e.symm).1; omega
  have hsz : w.heap.size ≤ w1.heap.size := by have := hg.size; simp at this; omega
  have hblk : ∀ g, g < W1.heap.size → w1.heap[g]? = w.heap[g]? := fun g hlt => (hg.block g (by simp; omega) (hv g hlt)).trans (heap_alloc_old w o (by omega))
  have hgg := (hown.lt gg rfl).1
  refine ⟨(show Blk w1 V _ _ from (hblk V (by omega)).trans h.bV).setOther (by simp) _, ?_, ?_, by simp; omega, hb, fun g h1 h2 h3 => ?_⟩
  · refine ((h.row.of_block (hblk _ (by omega))).set k _).congr fun j hj => ?_
    by_cases e : j = k <;> simp [e]
  · rw [callsFrom_succ, List.flatMap_append, ← show news = [callAt b (p + 1 + 5 * m)].flatMap clCells by simp [hn]]
    exact hown.kept (Only.set (V + 2) k w1 _).g (.inr (by simp [Value.ownBlock]; omega))
  · rw [Below.heap_setCell _ _ _ _ (by simpa using h3), hblk g h1, h.kept g h1 h2 h3]
theorem Rd.next {w0 : World} {a0 : Option Addr} {b : List Int} {V p : Nat} {w w1 : World} {o : Obj} {row : Option Nat} {k : Nat} {u : Value} (h : Rd w0 a0 b (V + 1) p w) (hV : w0.heap.size ≤ V) (hg : ((w.alloc o).drew).grownBy w1 row) (hr : ∀ g, row = some g → V + 1 < g) :
    Rd w0 a0 b (V + 1) p (w1.setCell ⟨V + 2, k, none⟩ u) := by
  have h1 := h.alloc o
  have h2 : Below w0.heap.size w0 (w.alloc o).drew := h1.hw.drew
  have h3 : Below w0.heap.size w0 w1 := h2.grown hg h2.size (fun g e => by have := hr g e; omega)
  exact ((h.grown' (row := row) ⟨hg.os, hg.tape, hg.output, Nat.le_trans (by simp) hg.size, fun g hg1 hg2 => (hg.block g (by simp; omega) hg2).trans (heap_alloc_old w o hg1)⟩ (fun e => by have := hr _ e.symm; omega) h3)).set k u (by omega) (by omega)
theorem flat_at (l : List Cl) : ∀ (k : Nat) (c : Cl), l[k]? = some c → ∀ j, j < 4 → (l.flatMap clCells)[k * 4 + j]? = (clCells c)[j]? := by
  induction l with
  | nil => intro k c h; simp at h
  | cons x l ih =>
    intro k c h j hj
    have hx : (clCells x).length = 4 := rfl
    rw [List.flatMap_cons]
    cases k with
    | zero =>
      obtain rfl : x = c := by simpa using h
      rw [Nat.zero_mul, Nat.zero_add, List.getElem?_append_left (by omega)]
    | succ k =>
      rw [List.getElem?_append_right (by omega), hx, show (k + 1) * 4 + j - 4 = k * 4 + j by omega]
      exact ih k c (by simpa using h) j hj
theorem calls_of_owns {w : World} {base : Nat} {v : Value} {m : Nat} {l : List Cl} (h : w.ownsRow base 44 4 v m (l.flatMap clCells)) (hl : l.length = m) :
    ∃ a cap, v = .slice a m cap ∧ IsCalls w a l ∧ ∀ x, a = some x → base ≤ x.block ∧ x.block < w.heap.size := by
  rcases h.2 with ⟨rfl, hn⟩ | ⟨g, cap, cur, rfl, hb, hg, hnc, hcm, hcs, htake⟩
  · obtain rfl : l = [] := List.eq_nil_of_length_eq_zero (by omega)
    exact ⟨none, 0, by rw [hn], fun hh => absurd rfl hh, fun x hx => by cases hx⟩
  · refine ⟨some ⟨g, 0, none⟩, cap, rfl, fun _ => ⟨g, 0, rfl, fun k c hk => ?_⟩, fun x hx => by cases hx; exact ⟨hb, (Array.getElem?_eq_some_iff.1 hg).1⟩⟩
    have hat : ∀ j, j < 4 → ∀ u, (clCells c)[j]? = some u → w.cell? ⟨g, 0 + k * 4 + j, none⟩ = some u := fun j hj u hu => by
      have := h.cells (g := g) rfl (k * 4 + j) u (by rw [flat_at l k c hk j hj]; exact hu)
      have hadd : (⟨g, 0, none⟩ : Addr).add (k * 4 + j) = ⟨g, k * 4 + j, none⟩ := by unfold Addr.add; split <;> simp_all
      rw [hadd] at this; simpa using this
    exact ⟨hat 0 (by omega) _ rfl, hat 1 (by omega) _ rfl, hat 2 (by omega) _ rfl, hat 3 (by omega) _ rfl⟩
theorem Outer.next {w0 : World} {a0 : Option Addr} {b : List Int} {V n : Nat} {pg : Int} {k : Nat} {f : Nat → Value} {p nx : Nat} {v : Value} {w w3 wr : World} (h : Outer w0 a0 b V n pg k f w) (ho : Only (V + 1) w w3) (hN : InX b V n pg k f p w3 nx v wr)
    (hR : Rd w0 a0 b (V + 1) (p + 1 + 5 * nx) wr) (hp : p = pos b k) (hx : nx = nAt b p) : Outer w0 a0 b V n pg (k + 1) (fun j => if j = k then v else f j) wr := by
  subst hp hx
  refine ⟨hR, hN.bV, hN.row, fun j hj => ?_, fun j hj => ?_⟩
  · by_cases e : j = k
    · subst e
      obtain ⟨a, cap, hv, hc, hbl⟩ := calls_of_owns hN.own (callsFrom_len _ _ _)
      refine ⟨a, cap, by simp only [if_true]; rw [hv]; simp [listAt, callsFrom_len], hc, fun x hx => ?_⟩
      have := (hbl x hx).1; have := hN.big; omega
    · obtain ⟨a, cap, hv, hc, hbl⟩ := h.done j (by omega)
      refine ⟨a, cap, by simp only [if_neg e]; exact hv, hc.keep fun x o u hx hcell => ?_, hbl⟩
      have hlt := World.block_lt_of_cell? w _ hcell
      have hgt := hbl x hx
      simp only at hlt
      have e1 := hN.kept x.block (by rw [ho.s]; exact hlt) (by omega) (by omega)
      have e2 := ho.g.block x.block hlt (by simp; omega)
      rw [World.cell?_of_block (w := w) (a := ⟨x.block, o, none⟩) (e1.trans e2)]
      exact hcell
  · simp only [if_neg (show ¬ j = k by omega)]
    exact h.rest j (by omega)
/-- what stands in Script's last loop, j picks read from P on; W6: the world at its beginning; v: the picks -/
structure PickI (w0 : World) (a0 : Option Addr) (b : List Int) (V n : Nat) (pg : Int) (P : Nat) (W6 : World) (j : Nat) (v : Value) (w : World) : Prop where
  rd : Rd w0 a0 b (V + 1) (P + j) w
  bV : Blk w V #[.int .i64 n, .int .i64 pg, .slice (some ⟨V + 2, 0, none⟩) n n, v] 27
  own : w.ownsRow W6.heap.size 3 1 v j ((picksFrom b P j).map encI)
  size : W6.heap.size ≤ w.heap.size
  big : V + 2 < W6.heap.size
  kept : ∀ g, g < W6.heap.size → g ≠ V → g ≠ V + 1 → w.heap[g]? = W6.heap[g]?
theorem PickI.next {w0 : World} {a0 : Option Addr} {b : List Int} {V n : Nat} {pg : Int} {P : Nat} {W6 : World} {j : Nat} {v : Value} {w w' w1 : World} {o : Obj} {gg cc : Nat} (h : PickI w0 a0 b V n pg P W6 j v w) (hV : w0.heap.size ≤ V)
    (hr : Rd w0 a0 b (V + 1) (P + j + 1) w') (ho : Only (V + 1) w w') (hg : (w'.alloc o).grownBy w1 v.ownBlock) (hown : w1.ownsRow W6.heap.size 3 1 (.slice (some ⟨gg, 0, none⟩) (j + 1) cc) (j + 1) ((picksFrom b P j).map encI ++ [encI (bt b (P + j))])) :
    PickI w0 a0 b V n pg P W6 (j + 1) (.slice (some ⟨gg, 0, none⟩) (j + 1) cc) (w1.setCell ⟨V, 3, none⟩ (.slice (some ⟨gg, 0, none⟩) (j + 1) cc)) := by
  have hb := h.big
  have hs := h.size
  have hos := ho.s
  have hv : ∀ g, g < W6.heap.size → some g ≠ v.ownBlock := fun g hg e => by have := (h.own.lt g e.symm).1; omega
  have hsz : w.heap.size ≤ w1.heap.size := by have := hg.size; simp at this; omega
  have hblk : ∀ g, g < W6.heap.size → w1.heap[g]? = w'.heap[g]? := fun g hlt => (hg.block g (by simp; omega) (hv g hlt)).trans (heap_alloc_old w' o (by omega))
  have hgg := (hown.lt gg rfl).1
  refine ⟨?_, ?_, ?_, by simp; omega, hb, fun g h1 h2 h3 => ?_⟩
  · have h2 : Below w0.heap.size w0 (w'.alloc o) := hr.hw.alloc hr.hw.size o
    have h3 : Below w0.heap.size w0 w1 := h2.grown hg h2.size (fun g e => by have := (h.own.lt g e).1; omega)
    have h4 : Rd w0 a0 b (V + 1) (P + j + 1) w1 := (hr.alloc o).grown' hg (fun e => by have := hv (V + 1) (by omega); exact this e) h3
    exact h4.set 3 _ hV (by omega)
  · exact (show Blk w1 V _ _ from (hblk V (by omega)).trans (h.bV.only ho (by omega))).set 3 _ rfl
  · rw [picksFrom_succ, List.map_append]
    exact hown.kept (Only.set V 3 w1 _).g (.inr (by simp [Value.ownBlock]; omega))
  · rw [Below.heap_setCell _ _ _ _ h2, hblk g h1, ho.g.block g (by omega) (by simpa using h3), h.kept g h1 h2 h3]
theorem Only.drew {R : Nat} {a b : World} (h : Only R a b) : Only R a b.drew := ⟨⟨h.g.os, h.g.tape, h.g.output, h.g.size, h.g.block⟩, h.s⟩
theorem Rd.drew {w0 : World} {a0 : Option Addr} {b : List Int} {R p : Nat} {w : World} (h : Rd w0 a0 b R p w) : Rd w0 a0 b R p w.drew := ⟨h.hR, h.hlt, h.hw.drew, h.hfr, h.hc⟩
theorem Only.ofDrew {R : Nat} {a b : World} (h : Only R a.drew b) : Only R a b := ⟨⟨h.g.os, h.g.tape, h.g.output, h.g.size, h.g.block⟩, h.s⟩
theorem frz_ad' (w : World) (o : Obj) (i : Nat) {g : Nat} (h : g < w.heap.size) : (w.alloc o).frozen? ⟨g, i, none⟩ = w.frozen? ⟨g, i, none⟩ := World.frozen?_of_block (w := w) (heap_alloc_old w o h)
theorem cel_ad' (w : World) (o : Obj) (i : Nat) {g : Nat} (h : g < w.heap.size) : (w.alloc o).cell? ⟨g, i, none⟩ = w.cell? ⟨g, i, none⟩ := World.cell?_of_block (w := w) (heap_alloc_old w o h)
theorem info3 : (Try.prog.info? 3).map (fun i => (i.zero, i.size, i.bytes)) = some (some (.int .i64 0), 1, 8) := by kernel_rfl
theorem info44 : (Try.prog.info? 44).map (fun i => (i.zero, i.size, i.bytes)) = some (some (.agg #[.int .i64 0, .int .i64 0, .int .i64 0, .int .i64 0]), 4, 32) := by kernel_rfl
/-- v is the script s, in memory; its picks are the callee's own -/
def IsScr (base : Nat) (w : World) (v : Value) (s : Scr) : Prop :=
  ∃ g capc vp, v = .agg #[.int .i64 s.cpus, .int .i64 s.pages, .slice (some ⟨g, 0, none⟩) s.calls.length capc, vp] ∧ base ≤ g ∧ (∀ (i : Nat) (l : List Cl), s.calls[i]? = some l → IsList w ⟨g, i, none⟩ l) ∧ w.ownsRow base 3 1 vp s.picks.length (s.picks.map encI)
theorem owns_mono {w : World} {base base' : Nat} {e : TypeId} {size : Nat} {v : Value} {n : Nat} {xs : List Value} (h : w.ownsRow base e size v n xs) (hb : base' ≤ base) : w.ownsRow base' e size v n xs :=
  ⟨h.1, h.2.elim Or.inl fun ⟨g, cap, cur, h1, h2, r⟩ => Or.inr ⟨g, cap, cur, h1, Nat.le_trans hb h2, r⟩⟩
theorem info42 : (Try.prog.info? 42).map (fun i => (i.zero, i.size, i.bytes)) = some (some (.slice none 0 0), 1, 24) := by kernel_rfl
set_option maxRecDepth 100000 in
set_option maxHeartbeats 3200000 in
theorem script_any (b : List Int) (a : Option Addr) (cap : Nat) (w : World) (hb : IsBytes b) (hI : IsSl encU w a b) (hcap : b.length ≤ cap) (hcm : cap ≤ 9223372036854775807) :
    Calls Try.prog 10 #[.slice a b.length cap] w fun e w' => ∃ v, e = .returned v ∧ IsScr w.heap.size w' v (scr b) ∧ Below w.heap.size w w' := by
  have HI := Lib.hid hI
  have hlen := hI.len
  have h0 := bt_bd hb 0
  have h1 := bt_bd hb 1
  have h2 := bt_bd hb 2
  obtain ⟨hn1, hn2, hn3⟩ := cpusN_bd hb
  obtain ⟨i0, hi, hz0, hz1, hz2⟩ := info_parts info3
  obtain ⟨c0, hc0, hcz0, hcz1, hcz2⟩ := info_parts info44
  have HN := Lib.hid hn1
  clear hI hn1
  go_enter Try.func10, Try.ntmps10
  go_wp2_with fail
  obtain ⟨V, hV⟩ : ∃ V, V = w.heap.size := ⟨_, rfl⟩
  have bV := Lib.hid ((Blk.new w #[.int .i64 0, .int .i64 0, .slice none 0 0, .slice none 0 0] 27).alloc (.cells #[.slice a b.length cap] 48))
  have hbw : Below w.heap.size w ((w.alloc (.cells #[.int .i64 0, .int .i64 0, .slice none 0 0, .slice none 0 0] 27)).alloc (.cells #[.slice a b.length cap] 48)) := (by repeat (first | exact Below.refl _ _ | assumption | refine Below.setCell ?_ (by first | omega | (simp; done) | (simp; omega)) _ | refine Below.drew ?_ | refine Below.alloc ?_ (by first | omega | (simp; done) | (simp; omega)) _ | refine Below.trans ?_ (Below.mono (by assumption) (by first | omega | (simp; done) | (simp; omega)))))
  have r0 : Rd w a b (w.heap.size + 1) 0 ((w.alloc (.cells #[.int .i64 0, .int .i64 0, .slice none 0 0, .slice none 0 0] 27)).alloc (.cells #[.slice a b.length cap] 48)) := by
    refine ⟨by omega, by simp, hbw, ?_, a, cap, ?_, by omega, hcm, fun hp => ?_⟩
    · simp
    · simp
    · obtain ⟨bk, off, x, ha, _⟩ := HI.out.at hp
      exact ⟨bk, off, ha, by rw [ha]; rfl⟩
  have hs0 : ((w.alloc (.cells #[.int .i64 0, .int .i64 0, .slice none 0 0, .slice none 0 0] 27)).alloc (.cells #[.slice a b.length cap] 48)).heap.size = w.heap.size + 2 := by simp
  have R0 := Lib.hid r0
  clear hbw r0
  generalize (w.alloc (.cells #[.int .i64 0, .int .i64 0, .slice none 0 0, .slice none 0 0] 27)).alloc (.cells #[.slice a b.length cap] 48) = W0 at *
  have hVle : w.heap.size ≤ V := by omega
  rw [← hV] at bV R0 hs0 ⊢
  clear hV
  refine (one_any w a b (V + 1) 0 W0 hb HI.out R0.out).mono ?_
  rintro e w1 ⟨rfl, hr, ho⟩
  have R1 := Lib.hid hr
  replace bV := Lib.hid (bV.out.only ho (by omega))
  have hs1 := ho.s
  clear hr ho R0
  have cV := bV.out.cell (i := 0) rfl
  have fV := bV.out.frozen 0
  go_wp2_with fail
  clear cV fV
  replace bV := Lib.hid (bV.out.set 0 (.int .i64 (1 + bt b 0 % 8)) rfl)
  replace R1 := Lib.hid (R1.out.set 0 (.int .i64 (1 + bt b 0 % 8)) (show w.heap.size ≤ V by omega) (by omega))
  have hs2 : (w1.setCell ⟨V, 0, none⟩ (.int .i64 (1 + bt b 0 % 8))).heap.size = V + 2 := by simp; omega
  generalize w1.setCell ⟨V, 0, none⟩ (.int .i64 (1 + bt b 0 % 8)) = w1' at *
  refine (two_any w a b (V + 1) 1 w1' hb HI.out R1.out).mono ?_
  rintro e w2 ⟨rfl, hr, ho⟩
  have R2 := Lib.hid hr
  replace bV := Lib.hid (bV.out.only ho (by omega))
  have hs3 := ho.s
  rw [hs2] at hs3
  clear hr ho R1 hs1 hs0 hs2
  have cV0 := bV.out.cell (i := 0) rfl
  have cV1 := bV.out.cell (i := 1) rfl
  have cV2 := bV.out.cell (i := 2) rfl
  have fV1 := bV.out.frozen 1
  have fV2 := bV.out.frozen 2
  have hmk := run_make_row' (P := Try.prog) 24 42 (.slice none 0 0) 24 Try.underlying24 info42 rfl .i64 .i64 (cpusN b) (by omega) (by omega)
  rw [HN.out] at hmk
  simp at cV0 cV1 cV2
  go_wp2_with fail
  clear hmk cV0 cV1 cV2 fV1 fV2
  obtain ⟨n, hn⟩ : ∃ n, n = cpusN b := ⟨_, rfl⟩
  rw [← hn] at HN hn2 hn3 ⊢
  obtain ⟨pg, hpg⟩ : ∃ pg, pg = 1 + (bt b 1 * 256 + bt b 2) % 1024 := ⟨_, rfl⟩
  rw [← HN.out, ← hpg]
  replace bV := Lib.hid (((bV.out.set 1 (.int .i64 pg) rfl).set 2 (.slice (some ⟨V + 2, 0, none⟩) n n) (cs' := #[.int .i64 n, .int .i64 pg, .slice (some ⟨V + 2, 0, none⟩) n n, .slice none 0 0]) (by rw [HN.out]; rfl)).alloc (.cells (madeCells #[.slice none 0 0] n) 42))
  replace R2 := Lib.hid (((R2.out.set 1 (.int .i64 pg) hVle (by omega)).set 2 (.slice (some ⟨V + 2, 0, none⟩) n n) hVle (by omega)).alloc (.cells (madeCells #[.slice none 0 0] n) 42))
  have hC := World.rowIs_made ((w2.setCell ⟨V, 1, none⟩ (.int .i64 pg)).setCell ⟨V, 2, none⟩ (.slice (some ⟨V + 2, 0, none⟩) n n)) (.slice none 0 0) n 42
  rw [show ((w2.setCell ⟨V, 1, none⟩ (.int .i64 pg)).setCell ⟨V, 2, none⟩ (.slice (some ⟨V + 2, 0, none⟩) n n)).heap.size = V + 2 by simpa using hs3] at hC
  have HC := Lib.hid hC
  clear hC hs3
  have HNN := Lib.hid hn
  have HPG := Lib.hid hpg
  clear hn hpg
  generalize ((w2.setCell ⟨V, 1, none⟩ (.int .i64 pg)).setCell ⟨V, 2, none⟩ (.slice (some ⟨V + 2, 0, none⟩) n n)).alloc (.cells (madeCells #[.slice none 0 0] n) 42) = W3 at *
  go_loopw [28] (fun i wr => ∃ (k : Nat) (f : Nat → Value), k ≤ n ∧ i = .int .i64 k ∧ Outer w a b V n pg k f wr) (fun i _ => n - (intOf i).toNat)
  case atStart => exact ⟨0, _, by omega, rfl, ⟨R2.out, bV.out, HC.out, fun j hj => by omega, fun j hj => rfl⟩⟩
  case round =>
    clear R2 bV HC
    obtain ⟨k, f, hk, rfl, hS⟩ := hrel
    have S := Lib.hid hS
    clear hS
    by_cases hlt : k < n
    · go_wp2_with fail
      refine (one_any w a b (V + 1) (pos b k) wr hb HI.out S.out.rd).mono ?_
      rintro e w3 ⟨rfl, hr, ho⟩
      obtain ⟨p, hp⟩ : ∃ p, p = pos b k := ⟨_, rfl⟩
      have hnx := nAt_bd hb p
      have hbp := bt_bd hb p
      rw [← hp] at hr ⊢
      have HP := Lib.hid hp
      have hI0 : InX b V n pg k f p w3 0 (.slice none 0 0) w3 := ⟨S.out.bV.only ho (by omega), (S.out.row.of_block (ho.g.block _ S.out.row.lt (by simp))).congr (fun j hj => by
          split
          · rename_i h; rw [h, S.out.rest k (Nat.le_refl _)]
          · rfl), World.ownsRow_nil _ _ _ _, Nat.le_refl _, by have := S.out.row.lt; have := ho.s; omega, fun g _ _ _ => rfl⟩
      have RD0 := Lib.hid hr
      have HI0 := Lib.hid hI0
      have HO := Lib.hid ho
      clear hI0 hr ho hp
      obtain ⟨nx, hnx'⟩ : ∃ nx, nx = nAt b p := ⟨_, rfl⟩
      rw [← hnx'] at hnx
      have HNX := Lib.hid hnx.1
      have hnx2 := hnx.2
      have HNX' := Lib.hid hnx'
      clear hnx hnx'
      go_wp2_with fail
      rw [← HNX.out]
      go_loopw [34] (fun i wr => ∃ (m : Nat) (v : Value), m ≤ nx ∧ i = .int .i64 m ∧ Rd w a b (V + 1) (p + 1 + 5 * m) wr ∧ InX b V n pg k f p w3 m v wr) (fun i _ => nx - (intOf i).toNat)
      case atStart => exact ⟨0, _, by omega, rfl, RD0.out, HI0.out⟩
      case round =>
        clear HI0
        obtain ⟨m, v, hm, rfl, hRD, hN⟩ := hrel
        have RD := Lib.hid hRD
        clear hRD RD0
        have N := Lib.hid hN
        clear hN
        by_cases hlt2 : m < nx
        · have e0 := bt_bd hb (p + 1 + 5 * m)
          have e1 := bt_bd hb (p + 1 + 5 * m + 1)
          have e2 := bt_bd hb (p + 1 + 5 * m + 2)
          have e3 := bt_bd hb (p + 1 + 5 * m + 3)
          have e4 := bt_bd hb (p + 1 + 5 * m + 4)
          go_wp2_with fail
          refine (one_any w a b (V + 1) _ _ hb HI.out RD.out).mono ?_
          rintro e w4 ⟨rfl, hr, ho⟩
          replace N := Lib.hid (N.out.only ho)
          go_wp2_with fail
          obtain ⟨T, hT⟩ : ∃ T, T = w4.heap.size := ⟨_, rfl⟩
          have hT1 : w3.heap.size ≤ T := by have := N.out.size; omega
          have hT2 := Lib.hid (show v.ownBlock ≠ some T from fun e => by have := (N.out.own.lt T e).2; omega)
          have hT3 : V + 2 < T := by have := N.out.big; omega
          have RA := Lib.hid (hr.alloc (.cells #[.int .i64 (bt b (p + 1 + 5 * m) % 14), .int .i64 0, .int .i64 0, .int .i64 0] 44))
          have BT := Lib.hid (Blk.new w4 #[.int .i64 (bt b (p + 1 + 5 * m) % 14), .int .i64 0, .int .i64 0, .int .i64 0] 44)
          replace N := Lib.hid (N.out.alloc (.cells #[.int .i64 (bt b (p + 1 + 5 * m) % 14), .int .i64 0, .int .i64 0, .int .i64 0] 44))
          rw [← hT] at BT ⊢
          clear hr ho hT RD
          generalize w4.alloc (.cells #[.int .i64 (bt b (p + 1 + 5 * m) % 14), .int .i64 0, .int .i64 0, .int .i64 0] 44) = w5 at *
          refine (one_any w a b (V + 1) _ _ hb HI.out RA.out).mono ?_
          rintro e w6 ⟨rfl, hr, ho⟩
          replace N := Lib.hid (N.out.only ho)
          replace BT := Lib.hid (BT.out.only ho (by omega))
          have cT := BT.out.cell (i := 1) rfl
          have fT := BT.out.frozen 1
          simp at cT
          go_wp2_with fail
          replace N := Lib.hid (N.out.set hT1 hT2.out 1 (.int .i64 (bt b (p + 1 + 5 * m + 1))))
          replace BT := Lib.hid (BT.out.set 1 (.int .i64 (bt b (p + 1 + 5 * m + 1))) rfl)
          replace RA := Lib.hid (hr.set 1 (.int .i64 (bt b (p + 1 + 5 * m + 1))) (g := T) (by have := hr.hR; omega) (by omega))
          clear hr ho cT fT
          generalize w6.setCell ⟨T, 1, none⟩ (.int .i64 (bt b (p + 1 + 5 * m + 1))) = w7 at *
          refine (two_any w a b (V + 1) (p + 1 + 5 * m + 2) _ hb HI.out RA.out).mono ?_
          rintro e w8 ⟨rfl, hr, ho⟩
          replace N := Lib.hid (N.out.only ho)
          replace BT := Lib.hid (BT.out.only ho (by omega))
          have cT := BT.out.cell (i := 2) rfl
          have fT := BT.out.frozen 2
          simp at cT
          obtain ⟨y, hy⟩ : ∃ y, y = bt b (p + 1 + 5 * m + 2) * 256 + bt b (p + 1 + 5 * m + 3) := ⟨_, rfl⟩
          have HY := Lib.hid hy
          rw [show bt b (p + 1 + 5 * m + 2) * 256 + bt b (p + 1 + 5 * m + 2 + 1) = y from hy.symm]
          clear hy
          go_wp2_with fail
          replace N := Lib.hid (N.out.set hT1 hT2.out 2 (.int .i64 y))
          replace BT := Lib.hid (BT.out.set 2 (.int .i64 y) rfl)
          replace RA := Lib.hid (hr.set 2 (.int .i64 y) (g := T) (by have := hr.hR; omega) (by omega))
          clear hr ho cT fT
          generalize w8.setCell ⟨T, 2, none⟩ (.int .i64 y) = w9 at *
          refine (one_any w a b (V + 1) (p + 1 + 5 * m + 4) _ hb HI.out RA.out).mono ?_
          rintro e w10 ⟨rfl, hr, ho⟩
          replace N := Lib.hid (N.out.only ho)
          replace BT := Lib.hid (BT.out.only ho (by omega))
          have cT := BT.out.cell (i := 3) rfl
          have fT := BT.out.frozen 3
          simp at cT
          go_wp2_with fail
          replace N := Lib.hid (N.out.set hT1 hT2.out 3 (.int .i64 (bt b (p + 1 + 5 * m + 4))))
          replace BT := Lib.hid (BT.out.set 3 (.int .i64 (bt b (p + 1 + 5 * m + 4))) (cs' := #[.int .i64 (bt b (p + 1 + 5 * m) % 14), .int .i64 (bt b (p + 1 + 5 * m + 1)), .int .i64 y, .int .i64 (bt b (p + 1 + 5 * m + 4))]) rfl)
          replace RA := Lib.hid (hr.set 3 (.int .i64 (bt b (p + 1 + 5 * m + 4))) (g := T) (by have := hr.hR; omega) (by omega))
          clear hr ho cT fT
          generalize w10.setCell ⟨T, 3, none⟩ (.int .i64 (bt b (p + 1 + 5 * m + 4))) = W5 at *
          have ag : v.ownBlock ≠ some V := fun e => by have := (N.out.own.lt V e).1; have := N.out.big; omega
          have ak : v.ownBlock ≠ some (V + 2) := fun e => by have := (N.out.own.lt _ e).1; have := N.out.big; omega
          have aT := hT2.out
          have lg := N.out.bV.lt
          have lk := N.out.row.lt
          have lT := BT.out.lt
          have hown := N.out.own
          have hsz5 := N.out.size
          have hi0' : (0 : Int) ≤ (k : Int) := Int.natCast_nonneg _
          have hi1 : (k : Int) < (n : Int) := by omega
          have s0 : W5.cell? ⟨V, 2, none⟩ = some (.slice (some ⟨V + 2, 0, none⟩) n n) := N.out.bV.cell rfl
          have s1 : W5.cell? ⟨V + 2, k, none⟩ = some v := by have := N.out.row.cell hlt; rwa [if_pos rfl] at this
          have s2 : W5.cell? ⟨T, 0, none⟩ = some (.int .i64 (bt b (p + 1 + 5 * m) % 14)) := BT.out.cell rfl
          have s3 : W5.cell? ⟨T, 1, none⟩ = some (.int .i64 (bt b (p + 1 + 5 * m + 1))) := BT.out.cell rfl
          have s4 : W5.cell? ⟨T, 2, none⟩ = some (.int .i64 y) := BT.out.cell rfl
          have s5 : W5.cell? ⟨T, 3, none⟩ = some (.int .i64 (bt b (p + 1 + 5 * m + 4))) := BT.out.cell rfl
          have s6 : W5.frozen? ⟨V + 2, k, none⟩ = false := N.out.row.frozen k
          have := World.new_ne W5 ⟨V + 2, k, none⟩ s1
          have hHB : (fun w' : World => w'.cell? ⟨V, 2, none⟩ = some (.slice (some ⟨V + 2, 0, none⟩) n n) ∧ w'.cell? ⟨T, 0, none⟩ = some (.int .i64 (bt b (p + 1 + 5 * m) % 14)) ∧
              w'.cell? ⟨T, 1, none⟩ = some (.int .i64 (bt b (p + 1 + 5 * m + 1))) ∧ w'.cell? ⟨T, 2, none⟩ = some (.int .i64 y) ∧ w'.cell? ⟨T, 3, none⟩ = some (.int .i64 (bt b (p + 1 + 5 * m + 4))) ∧ w'.frozen? ⟨V + 2, k, none⟩ = false ∧ w'.cell? ⟨V + 2, k, none⟩ = some v) W5.drew := ⟨s0, s2, s3, s4, s5, s6, s1⟩
          refine till_start 12 (fun w' : World => w'.cell? ⟨V, 2, none⟩ = some (.slice (some ⟨V + 2, 0, none⟩) n n) ∧ w'.cell? ⟨T, 0, none⟩ = some (.int .i64 (bt b (p + 1 + 5 * m) % 14)) ∧
              w'.cell? ⟨T, 1, none⟩ = some (.int .i64 (bt b (p + 1 + 5 * m + 1))) ∧ w'.cell? ⟨T, 2, none⟩ = some (.int .i64 y) ∧ w'.cell? ⟨T, 3, none⟩ = some (.int .i64 (bt b (p + 1 + 5 * m + 4))) ∧ w'.frozen? ⟨V + 2, k, none⟩ = false ∧ w'.cell? ⟨V + 2, k, none⟩ = some v) (by kernel_rfl) ?_
          refine till_take (i := 0) (v := ?_) rfl (by kernel_rfl) (by kernel_rfl) (by kernel_rfl) (by kernel_rfl) (fun _ _ _ h => h) (Or.inl ⟨by rfl, ?_⟩) hHB ?_
          rotate_left
          · (intro w hSw; (try dsimp only at hSw); go_simp; try with_reducible rfl)
          try simp only [Act.put, List.setIfInBounds_toArray, List.set_cons_zero, List.set_cons_succ]
          refine till_take (i := 1) (v := ?_) rfl (by kernel_rfl) (by kernel_rfl) (by kernel_rfl) (by kernel_rfl) (fun _ _ _ h => h) (Or.inl ⟨by rfl, ?_⟩) hHB ?_
          rotate_left
          · (intro w hSw; (try dsimp only at hSw); go_simp; try with_reducible rfl)
          try simp only [Act.put, List.setIfInBounds_toArray, List.set_cons_zero, List.set_cons_succ]
          refine till_take (i := 2) (v := ?_) rfl (by kernel_rfl) (by kernel_rfl) (by kernel_rfl) (by kernel_rfl) (fun _ _ _ h => h) (Or.inl ⟨by rfl, ?_⟩) hHB ?_
          rotate_left
          · (intro w hSw; (try dsimp only at hSw); go_simp; try with_reducible rfl)
          try simp only [Act.put, List.setIfInBounds_toArray, List.set_cons_zero, List.set_cons_succ]
          refine till_take (i := 3) (v := ?_) rfl (by kernel_rfl) (by kernel_rfl) (by kernel_rfl) (by kernel_rfl) (fun _ _ _ h => h) (Or.inl ⟨by rfl, ?_⟩) hHB ?_
          rotate_left
          · (intro w hSw; (try dsimp only at hSw); go_simp; try with_reducible rfl)
          try simp only [Act.put, List.setIfInBounds_toArray, List.set_cons_zero, List.set_cons_succ]
          refine till_take (i := 4) (v := ?_) rfl (by kernel_rfl) (by kernel_rfl) (by kernel_rfl) (by kernel_rfl) (fun _ _ _ h => h) (Or.inl ⟨by rfl, ?_⟩) hHB ?_
          rotate_left
          · (intro w hSw; (try dsimp only at hSw); go_simp; try with_reducible rfl)
          try simp only [Act.put, List.setIfInBounds_toArray, List.set_cons_zero, List.set_cons_succ]
          refine till_take (i := 5) (v := ?_) rfl (by kernel_rfl) (by kernel_rfl) (by kernel_rfl) (by kernel_rfl) (fun _ _ _ h => h) (Or.inl ⟨by rfl, ?_⟩) hHB ?_
          rotate_left
          · (intro w hSw; (try dsimp only at hSw); go_simp; try with_reducible rfl)
          try simp only [Act.put, List.setIfInBounds_toArray, List.set_cons_zero, List.set_cons_succ]
          refine till_take (i := 6) (v := ?_) rfl (by kernel_rfl) (by kernel_rfl) (by kernel_rfl) (by kernel_rfl) (fun _ _ _ h => h) (Or.inl ⟨by rfl, ?_⟩) hHB ?_
          rotate_left
          · (intro w hSw; (try dsimp only at hSw); go_simp; try with_reducible rfl)
          try simp only [Act.put, List.setIfInBounds_toArray, List.set_cons_zero, List.set_cons_succ]
          refine till_take (i := 7) (v := ?_) rfl (by kernel_rfl) (by kernel_rfl) (by kernel_rfl) (by kernel_rfl) (fun _ _ _ h => h) (Or.inl ⟨by rfl, ?_⟩) hHB ?_
          rotate_left
          · (intro w hSw; (try dsimp only at hSw); go_simp; try with_reducible rfl)
          try simp only [Act.put, List.setIfInBounds_toArray, List.set_cons_zero, List.set_cons_succ]
          refine till_take (i := 8) (v := ?_) rfl (by kernel_rfl) (by kernel_rfl) (by kernel_rfl) (by kernel_rfl) (fun _ _ _ h => h) (Or.inl ⟨by rfl, ?_⟩) hHB ?_
          rotate_left
          · (intro w hSw; (try dsimp only at hSw); go_simp; try with_reducible rfl)
          try simp only [Act.put, List.setIfInBounds_toArray, List.set_cons_zero, List.set_cons_succ]
          clear hHB
          refine till_one (i := 9) (by kernel_rfl) rfl (fun K hK => ?_)
          go_simp
          refine hK.out _ _ (fun _ => ⟨?_, ?_, ?_, ?_, ?_, ?_, ?_⟩) ?_
          all_goals try (first | exact (cel_ad' _ _ _ lg).trans s0 | exact (cel_ad' _ _ _ lT).trans s2 | exact (cel_ad' _ _ _ lT).trans s3 | exact (cel_ad' _ _ _ lT).trans s4 | exact (cel_ad' _ _ _ lT).trans s5 | exact (frz_ad' _ _ _ lk).trans s6 | exact (cel_ad' _ _ _ lk).trans s1)
          clear hK K
          try simp only [Act.put, List.setIfInBounds_toArray, List.set_cons_zero, List.set_cons_succ]
          refine till_one (i := 10) (by kernel_rfl) rfl (fun K hK => ?_)
          (refine step_append_lies _ (by rfl) _ _ _ (by rfl) w3.heap.size 44 c0 _ 4 32 Try.underlying42 hc0 hcz0 hcz1 hcz2 rfl (by omega) v m _ (by rfl) ((hown.alloc _).drew)
                ⟨W5.heap.size, 0, none⟩ 1 1 [.int .i64 (bt b (p + 1 + 5 * m) % 14), .int .i64 (bt b (p + 1 + 5 * m + 1)), .int .i64 y, .int .i64 (bt b (p + 1 + 5 * m + 4))] (by rfl) (by rfl) (World.news_of_block (cs := #[.int .i64 (bt b (p + 1 + 5 * m) % 14), .int .i64 (bt b (p + 1 + 5 * m + 1)), .int .i64 y, .int .i64 (bt b (p + 1 + 5 * m + 4))]) (t := 44) (fr := (0, 0)) (heap_alloc_new W5 _)) (by simp [Value.oneCell'])
                (by omega) (by unfold maxLen; omega) (by omega) (by simp; omega) (W5.heap.size + 1) (by simp) ?_; intro gg cc w1 hown1 hgrow hat hlt)
          have hcw : w1.cell? ⟨V + 2, k, none⟩ = some v := (by rw [hgrow.cell_far _ (by simp; omega) (Ne.symm ak)]; exact (cel_ad' _ _ _ lk).trans s1)
          have hfw : w1.frozen? ⟨V + 2, k, none⟩ = false := (by rw [hgrow.frozen_far _ (by simp; omega) (Ne.symm ak)]; exact (frz_ad' _ _ _ lk).trans s6)
          refine hK.out _ _ (fun _ => ⟨?_, ?_, ?_, ?_, ?_, hfw, hcw⟩) ?_
          · rw [hgrow.cell_far _ (by simp; omega) (Ne.symm ag)]; exact (cel_ad' _ _ _ lg).trans s0
          · rw [hgrow.cell_far _ (by simp; omega) (Ne.symm aT)]; exact (cel_ad' _ _ _ lT).trans s2
          · rw [hgrow.cell_far _ (by simp; omega) (Ne.symm aT)]; exact (cel_ad' _ _ _ lT).trans s3
          · rw [hgrow.cell_far _ (by simp; omega) (Ne.symm aT)]; exact (cel_ad' _ _ _ lT).trans s4
          · rw [hgrow.cell_far _ (by simp; omega) (Ne.symm aT)]; exact (cel_ad' _ _ _ lT).trans s5
          clear hK K
          try simp only [Act.put, List.setIfInBounds_toArray, List.set_cons_zero, List.set_cons_succ]
          refine till_one (i := 11) (by kernel_rfl) rfl (fun K hK => ?_)
          go_simp
          refine hK.out _ _ (fun _ => ⟨?_, ?_, ?_, ?_, ?_, hfw, hcw⟩) ?_
          · rw [hgrow.cell_far _ (by simp; omega) (Ne.symm ag)]; exact (cel_ad' _ _ _ lg).trans s0
          · rw [hgrow.cell_far _ (by simp; omega) (Ne.symm aT)]; exact (cel_ad' _ _ _ lT).trans s2
          · rw [hgrow.cell_far _ (by simp; omega) (Ne.symm aT)]; exact (cel_ad' _ _ _ lT).trans s3
          · rw [hgrow.cell_far _ (by simp; omega) (Ne.symm aT)]; exact (cel_ad' _ _ _ lT).trans s4
          · rw [hgrow.cell_far _ (by simp; omega) (Ne.symm aT)]; exact (cel_ad' _ _ _ lT).trans s5
          clear hK K
          try simp only [Act.put, List.setIfInBounds_toArray, List.set_cons_zero, List.set_cons_succ]
          refine till_one (i := 12) (by kernel_rfl) rfl (fun K hK => ?_)
          go_simp
          refine hK.out _ _ (fun h => absurd rfl h) ?_
          clear hK K
          try simp only [Act.put, List.setIfInBounds_toArray, List.set_cons_zero, List.set_cons_succ]
          refine till_done (by kernel_rfl) ?_ _
          have HX1 := Lib.hid (N.out.next hgrow hown1 (by rw [HY.out]; rfl))
          have RX1 := Lib.hid (RA.out.next (k := k) (u := .slice (some ⟨gg, 0, none⟩) (m + 1) cc) hVle hgrow (fun g e => by have := (N.out.own.lt g e).1; have := N.out.big; omega))
          clear hgrow hown1
          go_wp2_with fail
          go_roundw
          case rel => exact ⟨m + 1, _, by omega, by go_num, RX1.out, HX1.out⟩
          case measure => simp [intOf]; omega
        · obtain rfl : m = nx := by omega
          have OX := Lib.hid (S.out.next HO.out N.out RD.out HP.out HNX'.out)
          go_wp2_with fail
          go_roundw
          case rel => exact ⟨k + 1, _, by omega, by go_num, OX.out⟩
          case measure => simp [intOf]; omega
    · obtain rfl : k = n := by omega
      have cR := S.out.rd.hc
      obtain ⟨aR, capR, cR, hR1, hR2, hR3⟩ := cR
      obtain ⟨P, hP⟩ : ∃ P, P = pos b k := ⟨_, rfl⟩
      obtain ⟨M, hM⟩ : ∃ M, M = min (b.length - P) 4096 := ⟨_, rfl⟩
      have HP := Lib.hid hP
      have HM := Lib.hid hM
      have O := Lib.hid S.out
      rw [← hP] at cR hR1 hR3
      have hM2 : M ≤ 4096 := by omega
      have hM3 : (4096 < ((b.length - P : Nat) : Int) ∧ M = 4096) ∨ (¬ 4096 < ((b.length - P : Nat) : Int) ∧ ((b.length - P : Nat) : Int) = M) := by omega
      clear hP hM S
      have key : ∀ Q : Prop, (4096 < ((b.length - P : Nat) : Int) → M = 4096 → Q) → (¬ 4096 < ((b.length - P : Nat) : Int) → ((b.length - P : Nat) : Int) = M → Q) → Q := fun Q f g => hM3.elim (fun h => f h.1 h.2) (fun h => g h.1 h.2)
      clear hM3
      refine key _ (fun hq1 hq2 => ?_) (fun hq1 hq2 => ?_) <;> clear key
      · have Hq := Lib.hid hq2
        clear hq2
        go_wp2_with fail
        rw [show (4096 : Int) = (M : Int) by rw [Hq.out]; rfl]
        have hT0 : PickI w a b V k pg P wr 0 (.slice none 0 0) wr := ⟨by rw [HP.out]; exact O.out.rd, O.out.bV, World.ownsRow_nil _ _ _ _, Nat.le_refl _, O.out.row.lt, fun g _ _ _ => rfl⟩
        have HT0 := Lib.hid hT0
        clear hT0 cR hR1 hR2 hR3
        generalize wr = W6 at HT0 O ⊢
        go_loopw [69] (fun i wr => ∃ (j : Nat) (v : Value), j ≤ M ∧ i = .int .i64 j ∧ PickI w a b V k pg P W6 j v wr) (fun i _ => M - (intOf i).toNat)
        case atStart => exact ⟨0, _, by omega, rfl, HT0.out⟩
        case round =>
          clear HT0
          obtain ⟨j, v, hj, rfl, hN⟩ := hrel
          have N := Lib.hid hN
          clear hN
          by_cases hlt3 : j < M
          · go_wp2_with fail
            have ag : v.ownBlock ≠ some V := fun e => by have := (N.out.own.lt V e).1; have := N.out.big; omega
            have aR : v.ownBlock ≠ some (V + 1) := fun e => by have := (N.out.own.lt _ e).1; have := N.out.big; omega
            have lg := N.out.bV.lt
            have hsz5 := N.out.size
            have hbtj := bt_bd hb (P + j)
            have s1 : wr.cell? ⟨V, 3, none⟩ = some v := N.out.bV.cell rfl
            have s6 : wr.frozen? ⟨V, 3, none⟩ = false := N.out.bV.frozen 3
            have hHB : (fun w' : World => w'.frozen? ⟨V, 3, none⟩ = false ∧ w'.cell? ⟨V, 3, none⟩ = some v) wr.drew := ⟨s6, s1⟩
            refine till_start 7 (fun w' : World => w'.frozen? ⟨V, 3, none⟩ = false ∧ w'.cell? ⟨V, 3, none⟩ = some v) (by kernel_rfl) ?_
            refine till_take (i := 0) (v := ?_) rfl (by kernel_rfl) (by kernel_rfl) (by kernel_rfl) (by kernel_rfl) (fun _ _ _ h => h) (Or.inl ⟨by rfl, ?_⟩) hHB ?_
            rotate_left
            · (intro w hSw; (try dsimp only at hSw); go_simp; try with_reducible rfl)
            try simp only [Act.put, List.setIfInBounds_toArray, List.set_cons_zero, List.set_cons_succ]
            refine till_take (i := 1) (v := ?_) rfl (by kernel_rfl) (by kernel_rfl) (by kernel_rfl) (by kernel_rfl) (fun _ _ _ h => h) (Or.inl ⟨by rfl, ?_⟩) hHB ?_
            rotate_left
            · (intro w hSw; (try dsimp only at hSw); go_simp; try with_reducible rfl)
            try simp only [Act.put, List.setIfInBounds_toArray, List.set_cons_zero, List.set_cons_succ]
            refine till_take (i := 2) (v := ?_) rfl (by kernel_rfl) (by kernel_rfl) (by kernel_rfl) (by kernel_rfl) (fun _ _ _ h => h) (Or.inl ⟨by rfl, ?_⟩) hHB ?_
            rotate_left
            · (intro w hSw; (try dsimp only at hSw); go_simp; try with_reducible rfl)
            try simp only [Act.put, List.setIfInBounds_toArray, List.set_cons_zero, List.set_cons_succ]
            clear hHB
            refine till_one (i := 3) (by kernel_rfl) rfl (fun K hK => ?_)
            go_simp
            refine (one_any w a b (V + 1) (P + j) _ hb HI.out N.out.rd.drew).mono ?_
            rintro e wA ⟨rfl, hrA, hoA'⟩
            have hoA := hoA'.ofDrew
            have lA : V < wA.heap.size := (by rw [hoA.s]; exact lg)
            have hcA : wA.cell? ⟨V, 3, none⟩ = some v := ((World.cell?_of_block (w := wr) (a := ⟨V, 3, none⟩) (hoA.g.block V lg (by simp))).trans s1)
            have hfA : wA.frozen? ⟨V, 3, none⟩ = false := ((World.frozen?_of_block (w := wr) (a := ⟨V, 3, none⟩) (hoA.g.block V lg (by simp))).trans s6)
            have hownA : wA.ownsRow W6.heap.size 3 1 v j ((picksFrom b P j).map encI) := N.out.own.kept (w' := wA) hoA.g (by right; exact aR)
            have hszA : W6.heap.size ≤ wA.heap.size := (by rw [hoA.s]; exact hsz5)
            try go_wp2_with fail
            refine hK.out _ _ (fun _ => ⟨hfA, hcA⟩) ?_
            clear hK K
            try simp only [Act.put, List.setIfInBounds_toArray, List.set_cons_zero, List.set_cons_succ]
            refine till_one (i := 4) (by kernel_rfl) rfl (fun K hK => ?_)
            go_simp
            refine hK.out _ _ (fun _ => ⟨(frz_ad' _ _ _ lA).trans hfA, (cel_ad' _ _ _ lA).trans hcA⟩) ?_
            clear hK K
            try simp only [Act.put, List.setIfInBounds_toArray, List.set_cons_zero, List.set_cons_succ]
            refine till_one (i := 5) (by kernel_rfl) rfl (fun K hK => ?_)
            (refine step_append_lies _ (by rfl) _ _ _ (by rfl) W6.heap.size 3 i0 _ 1 8 Try.underlying25 hi hz0 hz1 hz2 rfl (by omega) v j _ (by rfl) (hownA.alloc _)
                          ⟨wA.heap.size, 0, none⟩ 1 1 [encI (bt b (P + j))] (by rfl) (by rfl) (World.news_of_block (cs := #[encI (bt b (P + j))]) (t := 3) (fr := (0, 0)) (heap_alloc_new wA _)) (by simp [Value.oneCell', encI])
                          (by omega) (by unfold maxLen; omega) (by omega) (by simp; omega) (wA.heap.size + 1) (by simp) ?_; intro gg cc w1 hown1 hgrow hat hlt)
            have hcw : w1.cell? ⟨V, 3, none⟩ = some v := (by rw [hgrow.cell_far _ (by simp; omega) (Ne.symm ag), cel_ad' _ _ _ lA]; exact hcA)
            have hfw : w1.frozen? ⟨V, 3, none⟩ = false := (by rw [hgrow.frozen_far _ (by simp; omega) (Ne.symm ag), frz_ad' _ _ _ lA]; exact hfA)
            refine hK.out _ _ (fun _ => ⟨hfw, hcw⟩) ?_
            clear hK K
            try simp only [Act.put, List.setIfInBounds_toArray, List.set_cons_zero, List.set_cons_succ]
            refine till_one (i := 6) (by kernel_rfl) rfl (fun K hK => ?_)
            go_simp
            refine hK.out _ _ (fun _ => ⟨hfw, hcw⟩) ?_
            clear hK K
            try simp only [Act.put, List.setIfInBounds_toArray, List.set_cons_zero, List.set_cons_succ]
            refine till_one (i := 7) (by kernel_rfl) rfl (fun K hK => ?_)
            go_simp
            refine hK.out _ _ (fun h => absurd rfl h) ?_
            clear hK K
            try simp only [Act.put, List.setIfInBounds_toArray, List.set_cons_zero, List.set_cons_succ]
            refine till_done (by kernel_rfl) ?_ _
            all_goals
              have NX := Lib.hid (N.out.next hVle hrA hoA hgrow hown1)
              clear hgrow hown1 hcw hfw hcA hfA hownA
              go_wp2_with fail
              go_roundw
              case rel => exact ⟨j + 1, _, by omega, by go_num, NX.out⟩
              case measure => simp [intOf]; omega
          · obtain rfl : j = M := by omega
            obtain ⟨a', cap', rfl, hs, hf, -⟩ := isSl_of_owns (enc := encI) (xs := picksFrom b P j) (by rw [picksFrom_len]; exact N.out.own)
            rw [picksFrom_len] at N
            have cc0 := N.out.bV.cell (i := 0) rfl
            have cc1 := N.out.bV.cell (i := 1) rfl
            have cc2 := N.out.bV.cell (i := 2) rfl
            have cc3 := N.out.bV.cell (i := 3) rfl
            have ff0 := N.out.bV.frozen 0
            have ff1 := N.out.bV.frozen 1
            have ff2 := N.out.bV.frozen 2
            have ff3 := N.out.bV.frozen 3
            simp at cc0 cc1 cc2 cc3
            go_wp2_with fail
            have BF := Lib.hid ((((N.out.bV.set 0 (.int .i64 k) rfl).set 1 (.int .i64 pg) rfl).set 2 (.slice (some ⟨V + 2, 0, none⟩) k k) rfl).set 3 (.slice a' j cap') (cs' := #[.int .i64 k, .int .i64 pg, .slice (some ⟨V + 2, 0, none⟩) k k, .slice a' j cap']) rfl)
            have OF := Lib.hid ((((Only.set V 0 wr (.int .i64 k)).trans (Only.set V 1 _ (.int .i64 pg))).trans (Only.set V 2 _ (.slice (some ⟨V + 2, 0, none⟩) k k))).trans (Only.set V 3 _ (.slice a' j cap')))
            have BW := Lib.hid ((((N.out.rd.hw.setCell (p := ⟨V, 0, none⟩) hVle (.int .i64 k)).setCell (p := ⟨V, 1, none⟩) hVle (.int .i64 pg)).setCell (p := ⟨V, 2, none⟩) hVle (.slice (some ⟨V + 2, 0, none⟩) k k)).setCell (p := ⟨V, 3, none⟩) hVle (.slice a' j cap'))
            have KF := Lib.hid (show ∀ g, g ≠ V → ((((wr.setCell ⟨V, 0, none⟩ (.int .i64 k)).setCell ⟨V, 1, none⟩ (.int .i64 pg)).setCell ⟨V, 2, none⟩ (.slice (some ⟨V + 2, 0, none⟩) k k)).setCell ⟨V, 3, none⟩ (.slice a' j cap')).heap[g]? = wr.heap[g]? from fun g hg => by
              rw [Below.heap_setCell _ _ _ _ (by simpa using hg), Below.heap_setCell _ _ _ _ (by simpa using hg), Below.heap_setCell _ _ _ _ (by simpa using hg), Below.heap_setCell _ _ _ _ (by simpa using hg)])
            clear cc0 cc1 cc2 cc3 ff0 ff1 ff2 ff3
            generalize (((wr.setCell ⟨V, 0, none⟩ (.int .i64 k)).setCell ⟨V, 1, none⟩ (.int .i64 pg)).setCell ⟨V, 2, none⟩ (.slice (some ⟨V + 2, 0, none⟩) k k)).setCell ⟨V, 3, none⟩ (.slice a' j cap') = WF at *
            have q0 := BF.out.cell (i := 0) rfl
            have q1 := BF.out.cell (i := 1) rfl
            have q2 := BF.out.cell (i := 2) rfl
            have q3 := BF.out.cell (i := 3) rfl
            simp at q0 q1 q2 q3
            refine bodyPost_ret (v := .agg #[.int .i64 k, .int .i64 pg, .slice (some ⟨V + 2, 0, none⟩) k k, .slice a' j cap']) (by simp [results, Try.results10, go_sem, q0, q1, q2, q3]) rfl ?_
            refine ⟨_, rfl, ⟨V + 2, k, .slice a' j cap', by unfold scr; simp [HPG.out, HN.out, ← HNN.out], by omega, ?_, ?_⟩, BW.out⟩
            · intro i l hl
              simp only [scr, ← HNN.out] at hl
              rw [List.getElem?_map] at hl
              obtain ⟨hik, rfl⟩ : i < k ∧ listAt b i = l := by
                by_cases h : i < k
                · rw [List.getElem?_range h] at hl; exact ⟨h, Option.some.inj hl⟩
                · rw [List.getElem?_eq_none (by simpa using h)] at hl; cases hl
              obtain ⟨a2, cap2, hf2, hc2, hb2⟩ := O.out.done i hik
              have hbig := N.out.big
              have hk2 := N.out.kept (V + 2) hbig (by omega) (by omega)
              refine ⟨a2, cap2, ?_, ?_⟩
              · rw [World.cell?_of_block (w := W6) (a := ⟨V + 2, i, none⟩) ((KF.out (V + 2) (by omega)).trans hk2), O.out.row.cell hik, hf2]
              · refine hc2.keep fun x o u hx hcell => ?_
                have hlt := World.block_lt_of_cell? W6 _ hcell
                have hgt := hb2 x hx
                simp only at hlt
                rw [World.cell?_of_block (w := W6) (a := ⟨x.block, o, none⟩) ((KF.out x.block (by omega)).trans (N.out.kept x.block hlt (by omega) (by omega)))]
                exact hcell
            · have hbs := N.out.own
              have e1 : (scr b).picks = picksFrom b P j := by simp only [scr, ← HNN.out, ← HP.out, ← HM.out]
              rw [e1, picksFrom_len]
              have hown1 : WF.ownsRow W6.heap.size 3 1 (.slice a' j cap') j ((picksFrom b P j).map encI) := hbs.kept OF.out.g (.inr (fun e => by have := (hbs.lt V e).1; have := N.out.big; omega))
              exact owns_mono hown1 (by have := N.out.big; omega)
      · have Hq := Lib.hid hq2
        clear hq2
        go_wp2_with fail
        rw [Hq.out]
        have hT0 : PickI w a b V k pg P wr 0 (.slice none 0 0) wr := ⟨by rw [HP.out]; exact O.out.rd, O.out.bV, World.ownsRow_nil _ _ _ _, Nat.le_refl _, O.out.row.lt, fun g _ _ _ => rfl⟩
        have HT0 := Lib.hid hT0
        clear hT0 cR hR1 hR2 hR3
        generalize wr = W6 at HT0 O ⊢
        go_loopw [69] (fun i wr => ∃ (j : Nat) (v : Value), j ≤ M ∧ i = .int .i64 j ∧ PickI w a b V k pg P W6 j v wr) (fun i _ => M - (intOf i).toNat)
        case atStart => exact ⟨0, _, by omega, rfl, HT0.out⟩
        case round =>
          clear HT0
          obtain ⟨j, v, hj, rfl, hN⟩ := hrel
          have N := Lib.hid hN
          clear hN
          by_cases hlt3 : j < M
          · go_wp2_with fail
            have ag : v.ownBlock ≠ some V := fun e => by have := (N.out.own.lt V e).1; have := N.out.big; omega
            have aR : v.ownBlock ≠ some (V + 1) := fun e => by have := (N.out.own.lt _ e).1; have := N.out.big; omega
            have lg := N.out.bV.lt
            have hsz5 := N.out.size
            have hbtj := bt_bd hb (P + j)
            have s1 : wr.cell? ⟨V, 3, none⟩ = some v := N.out.bV.cell rfl
            have s6 : wr.frozen? ⟨V, 3, none⟩ = false := N.out.bV.frozen 3
            have hHB : (fun w' : World => w'.frozen? ⟨V, 3, none⟩ = false ∧ w'.cell? ⟨V, 3, none⟩ = some v) wr.drew := ⟨s6, s1⟩
            refine till_start 7 (fun w' : World => w'.frozen? ⟨V, 3, none⟩ = false ∧ w'.cell? ⟨V, 3, none⟩ = some v) (by kernel_rfl) ?_
            refine till_take (i := 0) (v := ?_) rfl (by kernel_rfl) (by kernel_rfl) (by kernel_rfl) (by kernel_rfl) (fun _ _ _ h => h) (Or.inl ⟨by rfl, ?_⟩) hHB ?_
            rotate_left
            · (intro w hSw; (try dsimp only at hSw); go_simp; try with_reducible rfl)
            try simp only [Act.put, List.setIfInBounds_toArray, List.set_cons_zero, List.set_cons_succ]
            refine till_take (i := 1) (v := ?_) rfl (by kernel_rfl) (by kernel_rfl) (by kernel_rfl) (by kernel_rfl) (fun _ _ _ h => h) (Or.inl ⟨by rfl, ?_⟩) hHB ?_
            rotate_left
            · (intro w hSw; (try dsimp only at hSw); go_simp; try with_reducible rfl)
            try simp only [Act.put, List.setIfInBounds_toArray, List.set_cons_zero, List.set_cons_succ]
            refine till_take (i := 2) (v := ?_) rfl (by kernel_rfl) (by kernel_rfl) (by kernel_rfl) (by kernel_rfl) (fun _ _ _ h => h) (Or.inl ⟨by rfl, ?_⟩) hHB ?_
            rotate_left
            · (intro w hSw; (try dsimp only at hSw); go_simp; try with_reducible rfl)
            try simp only [Act.put, List.setIfInBounds_toArray, List.set_cons_zero, List.set_cons_succ]
            clear hHB
            refine till_one (i := 3) (by kernel_rfl) rfl (fun K hK => ?_)
            go_simp
            refine (one_any w a b (V + 1) (P + j) _ hb HI.out N.out.rd.drew).mono ?_
            rintro e wA ⟨rfl, hrA, hoA'⟩
            have hoA := hoA'.ofDrew
            have lA : V < wA.heap.size := (by rw [hoA.s]; exact lg)
            have hcA : wA.cell? ⟨V, 3, none⟩ = some v := ((World.cell?_of_block (w := wr) (a := ⟨V, 3, none⟩) (hoA.g.block V lg (by simp))).trans s1)
            have hfA : wA.frozen? ⟨V, 3, none⟩ = false := ((World.frozen?_of_block (w := wr) (a := ⟨V, 3, none⟩) (hoA.g.block V lg (by simp))).trans s6)
            have hownA : wA.ownsRow W6.heap.size 3 1 v j ((picksFrom b P j).map encI) := N.out.own.kept (w' := wA) hoA.g (by right; exact aR)
            have hszA : W6.heap.size ≤ wA.heap.size := (by rw [hoA.s]; exact hsz5)
            try go_wp2_with fail
            refine hK.out _ _ (fun _ => ⟨hfA, hcA⟩) ?_
            clear hK K
            try simp only [Act.put, List.setIfInBounds_toArray, List.set_cons_zero, List.set_cons_succ]
            refine till_one (i := 4) (by kernel_rfl) rfl (fun K hK => ?_)
            go_simp
            refine hK.out _ _ (fun _ => ⟨(frz_ad' _ _ _ lA).trans hfA, (cel_ad' _ _ _ lA).trans hcA⟩) ?_
            clear hK K
            try simp only [Act.put, List.setIfInBounds_toArray, List.set_cons_zero, List.set_cons_succ]
            refine till_one (i := 5) (by kernel_rfl) rfl (fun K hK => ?_)
            (refine step_append_lies _ (by rfl) _ _ _ (by rfl) W6.heap.size 3 i0 _ 1 8 Try.underlying25 hi hz0 hz1 hz2 rfl (by omega) v j _ (by rfl) (hownA.alloc _)
                          ⟨wA.heap.size, 0, none⟩ 1 1 [encI (bt b (P + j))] (by rfl) (by rfl) (World.news_of_block (cs := #[encI (bt b (P + j))]) (t := 3) (fr := (0, 0)) (heap_alloc_new wA _)) (by simp [Value.oneCell', encI])
                          (by omega) (by unfold maxLen; omega) (by omega) (by simp; omega) (wA.heap.size + 1) (by simp) ?_; intro gg cc w1 hown1 hgrow hat hlt)
            have hcw : w1.cell? ⟨V, 3, none⟩ = some v := (by rw [hgrow.cell_far _ (by simp; omega) (Ne.symm ag), cel_ad' _ _ _ lA]; exact hcA)
            have hfw : w1.frozen? ⟨V, 3, none⟩ = false := (by rw [hgrow.frozen_far _ (by simp; omega) (Ne.symm ag), frz_ad' _ _ _ lA]; exact hfA)
            refine hK.out _ _ (fun _ => ⟨hfw, hcw⟩) ?_
            clear hK K
            try simp only [Act.put, List.setIfInBounds_toArray, List.set_cons_zero, List.set_cons_succ]
            refine till_one (i := 6) (by kernel_rfl) rfl (fun K hK => ?_)
            go_simp
            refine hK.out _ _ (fun _ => ⟨hfw, hcw⟩) ?_
            clear hK K
            try simp only [Act.put, List.setIfInBounds_toArray, List.set_cons_zero, List.set_cons_succ]
            refine till_one (i := 7) (by kernel_rfl) rfl (fun K hK => ?_)
            go_simp
            refine hK.out _ _ (fun h => absurd rfl h) ?_
            clear hK K
            try simp only [Act.put, List.setIfInBounds_toArray, List.set_cons_zero, List.set_cons_succ]
            refine till_done (by kernel_rfl) ?_ _
            all_goals
              have NX := Lib.hid (N.out.next hVle hrA hoA hgrow hown1)
              clear hgrow hown1 hcw hfw hcA hfA hownA
              go_wp2_with fail
              go_roundw
              case rel => exact ⟨j + 1, _, by omega, by go_num, NX.out⟩
              case measure => simp [intOf]; omega
          · obtain rfl : j = M := by omega
            obtain ⟨a', cap', rfl, hs, hf, -⟩ := isSl_of_owns (enc := encI) (xs := picksFrom b P j) (by rw [picksFrom_len]; exact N.out.own)
            rw [picksFrom_len] at N
            have cc0 := N.out.bV.cell (i := 0) rfl
            have cc1 := N.out.bV.cell (i := 1) rfl
            have cc2 := N.out.bV.cell (i := 2) rfl
            have cc3 := N.out.bV.cell (i := 3) rfl
            have ff0 := N.out.bV.frozen 0
            have ff1 := N.out.bV.frozen 1
            have ff2 := N.out.bV.frozen 2
            have ff3 := N.out.bV.frozen 3
            simp at cc0 cc1 cc2 cc3
            go_wp2_with fail
            have BF := Lib.hid ((((N.out.bV.set 0 (.int .i64 k) rfl).set 1 (.int .i64 pg) rfl).set 2 (.slice (some ⟨V + 2, 0, none⟩) k k) rfl).set 3 (.slice a' j cap') (cs' := #[.int .i64 k, .int .i64 pg, .slice (some ⟨V + 2, 0, none⟩) k k, .slice a' j cap']) rfl)
            have OF := Lib.hid ((((Only.set V 0 wr (.int .i64 k)).trans (Only.set V 1 _ (.int .i64 pg))).trans (Only.set V 2 _ (.slice (some ⟨V + 2, 0, none⟩) k k))).trans (Only.set V 3 _ (.slice a' j cap')))
            have BW := Lib.hid ((((N.out.rd.hw.setCell (p := ⟨V, 0, none⟩) hVle (.int .i64 k)).setCell (p := ⟨V, 1, none⟩) hVle (.int .i64 pg)).setCell (p := ⟨V, 2, none⟩) hVle (.slice (some ⟨V + 2, 0, none⟩) k k)).setCell (p := ⟨V, 3, none⟩) hVle (.slice a' j cap'))
            have KF := Lib.hid (show ∀ g, g ≠ V → ((((wr.setCell ⟨V, 0, none⟩ (.int .i64 k)).setCell ⟨V, 1, none⟩ (.int .i64 pg)).setCell ⟨V, 2, none⟩ (.slice (some ⟨V + 2, 0, none⟩) k k)).setCell ⟨V, 3, none⟩ (.slice a' j cap')).heap[g]? = wr.heap[g]? from fun g hg => by
              rw [Below.heap_setCell _ _ _ _ (by simpa using hg), Below.heap_setCell _ _ _ _ (by simpa using hg), Below.heap_setCell _ _ _ _ (by simpa using hg), Below.heap_setCell _ _ _ _ (by simpa using hg)])
            clear cc0 cc1 cc2 cc3 ff0 ff1 ff2 ff3
            generalize (((wr.setCell ⟨V, 0, none⟩ (.int .i64 k)).setCell ⟨V, 1, none⟩ (.int .i64 pg)).setCell ⟨V, 2, none⟩ (.slice (some ⟨V + 2, 0, none⟩) k k)).setCell ⟨V, 3, none⟩ (.slice a' j cap') = WF at *
            have q0 := BF.out.cell (i := 0) rfl
            have q1 := BF.out.cell (i := 1) rfl
            have q2 := BF.out.cell (i := 2) rfl
            have q3 := BF.out.cell (i := 3) rfl
            simp at q0 q1 q2 q3
            refine bodyPost_ret (v := .agg #[.int .i64 k, .int .i64 pg, .slice (some ⟨V + 2, 0, none⟩) k k, .slice a' j cap']) (by simp [results, Try.results10, go_sem, q0, q1, q2, q3]) rfl ?_
            refine ⟨_, rfl, ⟨V + 2, k, .slice a' j cap', by unfold scr; simp [HPG.out, HN.out, ← HNN.out], by omega, ?_, ?_⟩, BW.out⟩
            · intro i l hl
              simp only [scr, ← HNN.out] at hl
              rw [List.getElem?_map] at hl
              obtain ⟨hik, rfl⟩ : i < k ∧ listAt b i = l := by
                by_cases h : i < k
                · rw [List.getElem?_range h] at hl; exact ⟨h, Option.some.inj hl⟩
                · rw [List.getElem?_eq_none (by simpa using h)] at hl; cases hl
              obtain ⟨a2, cap2, hf2, hc2, hb2⟩ := O.out.done i hik
              have hbig := N.out.big
              have hk2 := N.out.kept (V + 2) hbig (by omega) (by omega)
              refine ⟨a2, cap2, ?_, ?_⟩
              · rw [World.cell?_of_block (w := W6) (a := ⟨V + 2, i, none⟩) ((KF.out (V + 2) (by omega)).trans hk2), O.out.row.cell hik, hf2]
              · refine hc2.keep fun x o u hx hcell => ?_
                have hlt := World.block_lt_of_cell? W6 _ hcell
                have hgt := hb2 x hx
                simp only at hlt
                rw [World.cell?_of_block (w := W6) (a := ⟨x.block, o, none⟩) ((KF.out x.block (by omega)).trans (N.out.kept x.block hlt (by omega) (by omega)))]
                exact hcell
            · have hbs := N.out.own
              have e1 : (scr b).picks = picksFrom b P j := by simp only [scr, ← HNN.out, ← HP.out, ← HM.out]
              rw [e1, picksFrom_len]
              have hown1 : WF.ownsRow W6.heap.size 3 1 (.slice a' j cap') j ((picksFrom b P j).map encI) := hbs.kept OF.out.g (.inr (fun e => by have := (hbs.lt V e).1; have := N.out.big; omega))
              exact owns_mono hown1 (by have := N.out.big; omega)
end Go.Proofs.Ytdjhkiahpidldaa
