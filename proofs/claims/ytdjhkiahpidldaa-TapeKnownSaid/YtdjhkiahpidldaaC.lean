/- What the reference's Script answers. -/
import Derived.Test.YtdjhkiahpidldaaB
namespace Go.Proofs.Ytdjhkiahpidldaa
open Go.RowKit

attribute [local go_sem ↓] Go.wp_at_zero Go.wp_at_succ
theorem Rr.grown {w0 : World} {a0 : Option Addr} {b : List Int} {cap0 R p : Nat} {w w' : World} {row : Option Nat} (h : Rr w0 a0 b cap0 R p w) (hg : w.grownBy w' row) (hn : some R ≠ row) (hw : Below w0.heap.size w0 w') : Rr w0 a0 b cap0 R p w' := by
  have e := hg.block R h.hlt hn
  exact ⟨h.hR, Nat.lt_of_lt_of_le h.hlt hg.size, hw, by rw [World.frozen?_of_block (w := w) e]; exact h.hfr, by rw [World.cell?_of_block (w := w) e]; exact h.hc0, by rw [World.cell?_of_block (w := w) e]; exact h.hc1⟩
theorem Rr.set {w0 : World} {a0 : Option Addr} {b : List Int} {cap0 R p : Nat} {w : World} (h : Rr w0 a0 b cap0 R p w) {g : Nat} (i : Nat) (v : Value) (hg : w0.heap.size ≤ g) (hn : R ≠ g) : Rr w0 a0 b cap0 R p (w.setCell ⟨g, i, none⟩ v) :=
  h.grown (Only.set g i w v).g (by simpa using hn) (h.hw.setCell hg v)
theorem Rr.alloc {w0 : World} {a0 : Option Addr} {b : List Int} {cap0 R p : Nat} {w : World} (h : Rr w0 a0 b cap0 R p w) (o : Obj) : Rr w0 a0 b cap0 R p (w.alloc o) :=
  h.grown (World.grownBy_alloc w o none) (by simp) (h.hw.alloc h.hw.size _)
theorem Rr.drew {w0 : World} {a0 : Option Addr} {b : List Int} {cap0 R p : Nat} {w : World} (h : Rr w0 a0 b cap0 R p w) : Rr w0 a0 b cap0 R p w.drew := ⟨h.hR, h.hlt, h.hw.drew, h.hfr, h.hc0, h.hc1⟩

set_option maxRecDepth 100000 in
set_option maxHeartbeats 400000 in
theorem rtwo_any (w0 : World) (a0 : Option Addr) (b : List Int) (cap0 R p : Nat) (w : World) (hb : IsBytes b) (hI : IsSl encU w0 a0 b) (h : Rr w0 a0 b cap0 R p w) :
    Calls Try.prog 26 #[.pointer (some ⟨R, 0, none⟩)] w fun e w' => e = .returned (.int .i64 (bt b p * 256 + bt b (p + 1))) ∧ Rr w0 a0 b cap0 R (p + 2) w' ∧ Only R w w' := by
  have H := Lib.hid h
  have HI := Lib.hid hI
  have h1 := bt_bd hb p
  have h2 := bt_bd hb (p + 1)
  clear h hI
  go_enter Try.func26, Try.ntmps26
  go_wp2_with fail
  refine (rone_any w0 a0 b cap0 R p w hb HI.out H.out).mono ?_
  rintro e w1 ⟨rfl, hr, ho⟩
  have H1 := Lib.hid hr
  have O1 := Lib.hid ho
  clear hr ho
  go_wp2_with fail
  refine (rone_any w0 a0 b cap0 R (p + 1) w1 hb HI.out H1.out).mono ?_
  rintro e w2 ⟨rfl, hr, ho⟩
  have H2 := Lib.hid hr
  have O2 := Lib.hid (O1.out.trans ho)
  clear hr ho
  go_wp2_with fail
  go_ret
  exact ⟨rfl, H2.out, O2.out⟩

theorem owns_of_heap {w w' : World} {base : Nat} {e : TypeId} {size n : Nat} {v : Value} {xs : List Value} (h : w.ownsRow base e size v n xs) (hk : ∀ g, v.ownBlock = some g → w'.heap[g]? = w.heap[g]?) : w'.ownsRow base e size v n xs := by
  refine ⟨h.1, h.2.elim Or.inl fun hx => Or.inr ?_⟩
  revert hx
  rintro ⟨g, cap, cur, rfl, hb, hg, r⟩
  exact ⟨g, cap, cur, rfl, hb, (hk g rfl).trans hg, r⟩
theorem owns_apart {w : World} {base base' : Nat} {e e' : TypeId} {size size' n n' : Nat} {v v' : Value} {xs xs' : List Value} (h : w.ownsRow base e size v n xs) (h' : w.ownsRow base' e' size' v' n' xs') (hne : e ≠ e') : v.ownBlock = none ∨ v.ownBlock ≠ v'.ownBlock := by
  rcases h.2 with ⟨rfl, _⟩ | ⟨g, cap, cur, rfl, _, hg, _⟩
  · exact .inl rfl
  · right
    rcases h'.2 with ⟨rfl, _⟩ | ⟨g', cap', cur', rfl, _, hg', _⟩
    · simp [Value.ownBlock]
    · intro he
      obtain rfl : g = g' := by simpa [Value.ownBlock] using he
      rw [hg] at hg'
      injection hg' with hg'
      injection hg' with _ ht
      exact hne ht
theorem owns_form {w : World} {base : Nat} {e : TypeId} {size n : Nat} {v : Value} {xs : List Value} (h : w.ownsRow base e size v n xs) : ∃ a cap, v = .slice a n cap ∧ n ≤ cap ∧ cap ≤ maxLen := by
  rcases h.2 with ⟨rfl, rfl⟩ | ⟨g, cap, cur, rfl, _, _, h1, h2, _⟩
  · exact ⟨none, 0, rfl, by omega, by simp [maxLen]⟩
  · exact ⟨_, cap, rfl, h1, h2⟩
theorem owns_one {w : World} {base : Nat} {e : TypeId} {size n : Nat} {v : Value} {xs : List Value} (h : w.ownsRow base e size v n xs) : v.oneCell' = true := by
  obtain ⟨a, cap, rfl, _⟩ := owns_form h
  rfl

/-- what stands in the reference's Script, k lists read (the reader apart) -/
structure OutB (b : List Int) (V n : Nat) (pg : Int) (k : Nat) (vc : Value) (vs : List Value) (w : World) : Prop where
  bV : Blk w V #[.int .i64 0, .int .i64 0, .slice none 0 0, .slice none 0 0] 27
  bS : Blk w (V + 2) #[.int .i64 n, .int .i64 pg, vc, .slice none 0 0] 27
  own : w.ownsRow (V + 3) 42 1 vc k vs
  done : ∀ j, j < k → ∃ u, vs[j]? = some u ∧ w.ownsRow (V + 3) 44 4 u (listAt b j).length ((listAt b j).flatMap clCells)
theorem OutB.keep {b : List Int} {V n : Nat} {pg : Int} {k : Nat} {vc : Value} {vs : List Value} {w w' : World} (h : OutB b V n pg k vc vs w) (hk : ∀ g, g < w.heap.size → g ≠ V + 1 → w'.heap[g]? = w.heap[g]?) : OutB b V n pg k vc vs w' := by
  refine ⟨(hk V h.bV.lt (by omega)).trans h.bV, (hk _ h.bS.lt (by omega)).trans h.bS, owns_of_heap h.own fun g hg => hk g (h.own.lt g hg).2 (by have := (h.own.lt g hg).1; omega), fun j hj => ?_⟩
  obtain ⟨u, hu, ho⟩ := h.done j hj
  exact ⟨u, hu, owns_of_heap ho fun g hg => hk g (ho.lt g hg).2 (by have := (ho.lt g hg).1; omega)⟩
theorem OutB.push {b : List Int} {V n : Nat} {pg : Int} {k : Nat} {vc : Value} {vs : List Value} {w w1 : World} {o : Obj} {v : Value} {gg cc : Nat} (h : OutB b V n pg k vc vs w) (hv : w.ownsRow (V + 3) 44 4 v (listAt b k).length ((listAt b k).flatMap clCells))
    (hg : (w.alloc o).grownBy w1 vc.ownBlock) (hown : w1.ownsRow (V + 3) 42 1 (.slice (some ⟨gg, 0, none⟩) (k + 1) cc) (k + 1) (vs ++ [v])) :
    OutB b V n pg (k + 1) (.slice (some ⟨gg, 0, none⟩) (k + 1) cc) (vs ++ [v]) (w1.setCell ⟨V + 2, 2, none⟩ (.slice (some ⟨gg, 0, none⟩) (k + 1) cc)) := by
  have hvb : ∀ g, g < V + 3 → some g ≠ vc.ownBlock := fun g hg e => by have := (h.own.lt g e.symm).1; omega
  have hblk : ∀ g, g < w.heap.size → some g ≠ vc.ownBlock → w1.heap[g]? = w.heap[g]? := fun g hlt hn => (hg.block g (by simp; omega) hn).trans (heap_alloc_old w o (by omega))
  have hgg := (hown.lt gg rfl).1
  have hl := h.own.1
  have keepL : ∀ u m xs, w.ownsRow (V + 3) 44 4 u m xs → (w1.setCell ⟨V + 2, 2, none⟩ (.slice (some ⟨gg, 0, none⟩) (k + 1) cc)).ownsRow (V + 3) 44 4 u m xs := fun u m xs ho => by
    refine owns_of_heap ho fun g hgu => ?_
    have h1 := ho.lt g hgu
    rw [Below.heap_setCell _ _ _ _ (by simp; omega)]
    refine hblk g h1.2 fun e => ?_
    rcases owns_apart ho h.own (by decide) with h2 | h2
    · rw [h2] at hgu; cases hgu
    · exact h2 (hgu.trans e)
  refine ⟨(show Blk w1 V _ _ from (hblk V h.bV.lt (hvb V (by omega))).trans h.bV).setOther (by simp) _, (show Blk w1 (V + 2) _ _ from (hblk _ h.bS.lt (hvb _ (by omega))).trans h.bS).set 2 _ rfl, hown.kept (Only.set (V + 2) 2 w1 _).g (.inr (by simp [Value.ownBlock]; omega)), fun j hj => ?_⟩
  by_cases e : j = k
  · subst e
    exact ⟨v, by rw [List.getElem?_append_right (by omega)]; simp [show j - vs.length = 0 by omega], keepL _ _ _ hv⟩
  · obtain ⟨u, hu, ho⟩ := h.done j (by omega)
    exact ⟨u, by rw [List.getElem?_append_left (by have := (List.getElem?_eq_some_iff.1 hu).1; omega)]; exact hu, keepL _ _ _ ho⟩
/-- what stands in the reference's inner loop, m calls read -/
structure InR (b : List Int) (V p : Nat) (W1 : World) (m : Nat) (v : Value) (w : World) : Prop where
  own : w.ownsRow W1.heap.size 44 4 v m ((callsFrom b p m).flatMap clCells)
  size : W1.heap.size ≤ w.heap.size
  big : V + 2 < W1.heap.size
  kept : ∀ g, g < W1.heap.size → g ≠ V + 1 → w.heap[g]? = W1.heap[g]?
theorem InR.grown {b : List Int} {V p : Nat} {W1 : World} {m : Nat} {v : Value} {w w' : World} {row : Option Nat} (h : InR b V p W1 m v w) (hg : w.grownBy w' row) (hr : ∀ g, row = some g → g = V + 1 ∨ W1.heap.size ≤ g ∧ v.ownBlock ≠ some g) : InR b V p W1 m v w' := by
  have hb := h.big
  have hs := h.size
  refine ⟨h.own.kept hg ?_, Nat.le_trans h.size hg.size, h.big, fun g h1 h2 => (hg.block g (by omega) (fun e => ?_)).trans (h.kept g h1 h2)⟩
  · cases hv : v.ownBlock with
    | none => exact .inl rfl
    | some g =>
      right
      intro e
      have := (h.own.lt g hv).1
      rcases hr g e.symm with h | h
      · omega
      · exact h.2 hv
  · rcases hr g e.symm with h | h <;> omega
theorem InR.only {b : List Int} {V p : Nat} {W1 : World} {m : Nat} {v : Value} {w w' : World} (h : InR b V p W1 m v w) (ho : Only (V + 1) w w') : InR b V p W1 m v w' := h.grown ho.g (fun g e => .inl (Option.some.inj e).symm)
theorem InR.alloc {b : List Int} {V p : Nat} {W1 : World} {m : Nat} {v : Value} {w : World} (h : InR b V p W1 m v w) (o : Obj) : InR b V p W1 m v (w.alloc o) := h.grown (World.grownBy_alloc w o none) (fun g e => by cases e)
theorem InR.set {b : List Int} {V p : Nat} {W1 : World} {m : Nat} {v : Value} {w : World} (h : InR b V p W1 m v w) {T : Nat} (hT : W1.heap.size ≤ T) (hv : v.ownBlock ≠ some T) (i : Nat) (u : Value) : InR b V p W1 m v (w.setCell ⟨T, i, none⟩ u) :=
  h.grown (Only.set T i w u).g (fun g e => .inr (by cases e; exact ⟨hT, hv⟩))
theorem InR.next {b : List Int} {V p : Nat} {W1 : World} {m : Nat} {v : Value} {w w1 : World} {o : Obj} {v' : Value} {news : List Value} (h : InR b V p W1 m v w) (hg : (w.alloc o).grownBy w1 v.ownBlock)
    (hown : w1.ownsRow W1.heap.size 44 4 v' (m + 1) ((callsFrom b p m).flatMap clCells ++ news)) (hn : news = clCells (callAt b (p + 1 + 5 * m))) : InR b V p W1 (m + 1) v' w1 := by
  have hs := h.size
  have hv : ∀ g, g < W1.heap.size → some g ≠ v.ownBlock := fun g hg e => by have := (h.own.lt g e.symm).1; omega
  refine ⟨?_, by have := hg.size; simp at this; omega, h.big, fun g h1 h2 => ((hg.block g (by simp; omega) (hv g h1)).trans (heap_alloc_old w o (by omega))).trans (h.kept g h1 h2)⟩
  rw [callsFrom_succ, List.flatMap_append, ← show news = [callAt b (p + 1 + 5 * m)].flatMap clCells by simp [hn]]
  exact hown
/-- what stands in the reference's last loop, j picks read from P on -/
structure PickR (w0 : World) (a0 : Option Addr) (b : List Int) (cap0 V n : Nat) (pg : Int) (vc : Value) (P : Nat) (W6 : World) (j : Nat) (v : Value) (w : World) : Prop where
  rd : Rr w0 a0 b cap0 (V + 1) (P + j) w
  bS : Blk w (V + 2) #[.int .i64 n, .int .i64 pg, vc, v] 27
  own : w.ownsRow W6.heap.size 3 1 v j ((picksFrom b P j).map encI)
  size : W6.heap.size ≤ w.heap.size
  big : V + 2 < W6.heap.size
  kept : ∀ g, g < W6.heap.size → g ≠ V + 2 → g ≠ V + 1 → w.heap[g]? = W6.heap[g]?
theorem PickR.next {w0 : World} {a0 : Option Addr} {b : List Int} {cap0 V n : Nat} {pg : Int} {vc : Value} {P : Nat} {W6 : World} {j : Nat} {v : Value} {w w' w1 : World} {o : Obj} {gg cc : Nat} (h : PickR w0 a0 b cap0 V n pg vc P W6 j v w) (hV : w0.heap.size ≤ V)
    (hr : Rr w0 a0 b cap0 (V + 1) (P + j + 1) w') (ho : Only (V + 1) w w') (hg : (w'.alloc o).grownBy w1 v.ownBlock) (hown : w1.ownsRow W6.heap.size 3 1 (.slice (some ⟨gg, 0, none⟩) (j + 1) cc) (j + 1) ((picksFrom b P j).map encI ++ [encI (bt b (P + j))])) :
    PickR w0 a0 b cap0 V n pg vc P W6 (j + 1) (.slice (some ⟨gg, 0, none⟩) (j + 1) cc) (w1.setCell ⟨V + 2, 3, none⟩ (.slice (some ⟨gg, 0, none⟩) (j + 1) cc)) := by
  have hb := h.big
  have hs := h.size
  have hos := ho.s
  have hv : ∀ g, g < W6.heap.size → some g ≠ v.ownBlock := fun g hg e => by have := (h.own.lt g e.symm).1; omega
  have hsz : w.heap.size ≤ w1.heap.size := by have := hg.size; simp at this; omega
  have hblk : ∀ g, g < W6.heap.size → w1.heap[g]? = w'.heap[g]? := fun g hlt => (hg.block g (by simp; omega) (hv g hlt)).trans (heap_alloc_old w' o (by omega))
  have hgg := (hown.lt gg rfl).1
  refine ⟨?_, ?_, ?_, by simp; omega, hb, fun g h1 h2 h3 => ?_⟩
  · have h2 : Below w0.heap.size w0 (w'.alloc o) := hr.hw.alloc hr.hw.size o
    have h3 : Below w0.heap.size w0 w1 := h2.grown hg h2.size (fun g e => by have := (h.own.lt g e).1; omega)
    have h4 : Rr w0 a0 b cap0 (V + 1) (P + j + 1) w1 := (hr.alloc o).grown hg (fun e => by have := hv (V + 1) (by omega); exact this e) h3
    exact h4.set 3 _ (by omega) (by omega)
  · exact (show Blk w1 (V + 2) _ _ from (hblk (V + 2) (by omega)).trans (h.bS.only ho (by omega))).set 3 _ rfl
  · rw [picksFrom_succ, List.map_append]
    exact hown.kept (Only.set (V + 2) 3 w1 _).g (.inr (by simp [Value.ownBlock]; omega))
  · rw [Below.heap_setCell _ _ _ _ h2, hblk g h1, ho.g.block g (by omega) (by simpa using h3), h.kept g h1 h2 h3]
end Go.Proofs.Ytdjhkiahpidldaa
