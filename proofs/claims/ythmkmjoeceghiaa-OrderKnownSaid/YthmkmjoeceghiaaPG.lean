/- The program's order of calls: a call is done. -/
import Derived.Test.YthmkmjoeceghiaaPE
import Derived.Test.YthmkmjoeceghiaaTT
namespace Go.Proofs.Ythmkmjoeceghiaa
open Go.RowKit

attribute [local go_sem ↓] Go.wp_at_zero Go.wp_at_succ
theorem Blk.set {w : World} {g : Nat} {cs : Array Value} {t : TypeId} (h : Blk w g cs t) (i : Nat) (v : Value) {cs' : Array Value} (e : cs.setIfInBounds i v = cs') : Blk (w.setCell ⟨g, i, none⟩ v) g cs' t := by
  subst e; exact heap_setCell_same w g i cs t v h
theorem Blk.setOther {w : World} {g : Nat} {cs : Array Value} {t : TypeId} (h : Blk w g cs t) {a : Addr} (ha : g ≠ a.block) (v : Value) : Blk (w.setCell a v) g cs t :=
  (Below.heap_setCell w a v g ha).trans h
/-- w' is w but for the blocks X and those from base on -/
structure Kp (w w' : World) (base : Nat) (X : Nat → Prop) : Prop where
  os : w'.os = w.os
  tape : w'.tape = w.tape
  output : w'.output = w.output
  size : w.heap.size ≤ w'.heap.size
  blk : ∀ b, b < base → b < w.heap.size → ¬ X b → w'.heap[b]? = w.heap[b]?
theorem Kp.refl (w : World) (base : Nat) (X : Nat → Prop) : Kp w w base X := ⟨rfl, rfl, rfl, Nat.le_refl _, fun _ _ _ _ => rfl⟩
theorem Kp.trans {a b c : World} {base : Nat} {X : Nat → Prop} (h : Kp a b base X) (k : Kp b c base X) : Kp a c base X :=
  ⟨k.os.trans h.os, k.tape.trans h.tape, k.output.trans h.output, Nat.le_trans h.size k.size, fun i h1 h2 h3 => (k.blk i h1 (Nat.lt_of_lt_of_le h2 h.size) h3).trans (h.blk i h1 h2 h3)⟩
theorem Kp.of_grown {w w' : World} {base : Nat} {X : Nat → Prop} {row : Option Nat} (h : w.grownBy w' row) (hr : ∀ g, row = some g → X g ∨ base ≤ g) : Kp w w' base X :=
  ⟨h.os, h.tape, h.output, h.size, fun b hb hl hx => h.block b hl (fun e => (hr b e.symm).elim hx (fun h => by omega))⟩
theorem Kp.of_below {w w' : World} {base : Nat} {X : Nat → Prop} (h : Below w.heap.size w w') : Kp w w' base X := Kp.of_grown (grown_of_below h none) (fun g e => by cases e)
theorem Kp.mono {w w' : World} {base base' : Nat} {X X' : Nat → Prop} (h : Kp w w' base X) (hb : base' ≤ base) (hx : ∀ b, X b → X' b) : Kp w w' base' X' :=
  ⟨h.os, h.tape, h.output, h.size, fun b h1 h2 h3 => h.blk b (by omega) h2 (fun e => h3 (hx b e))⟩
theorem Kp.below {w0 w w' : World} {base : Nat} {X : Nat → Prop} (h : Kp w w' base X) (hb : Below w0.heap.size w0 w) (hX : ∀ b, X b → w0.heap.size ≤ b) (hB : w0.heap.size ≤ base) : Below w0.heap.size w0 w' :=
  ⟨h.os.trans hb.os, h.tape.trans hb.tape, h.output.trans hb.output, Nat.le_trans hb.size h.size, fun i hi => (h.blk i (by omega) (Nat.lt_of_lt_of_le hi hb.size) (fun e => by have := hX i e; omega)).trans (hb.block i hi)⟩
theorem Kp.Blk {w w' : World} {base : Nat} {X : Nat → Prop} {g : Nat} {cs : Array Value} {t : TypeId} (h : Kp w w' base X) (hb : Blk w g cs t) (hg : g < base) (hx : ¬ X g) : Blk w' g cs t := (h.blk g hg hb.lt hx).trans hb
/-- the cells of a call -/
abbrev clC (x : Sp) (i : Nat) (d : Bool) : Array Value := #[.int .i64 x.1.1, .int .i64 x.1.2.1, .int .i64 x.1.2.2.1, .int .i64 x.1.2.2.2, .int .i64 x.2.1, .int .i64 x.2.2, .int .i64 i, .bool d]
/-- what next leaves -/
def NextIs (mb cx base : Nat) (hp cv bv : Value) (x : Sp) (i : Nat) (xs : List Value) (n : Nat) (w : World) (e : Ending) (w' : World) : Prop :=
  e = .returned (.tuple #[]) ∧ ∃ v, Blk w' mb #[hp, cv, bv, v] 77 ∧ Blk w' cx (clC x i true) 80 ∧ w'.ownsRow base 3 1 v (n + 1) (xs ++ [encN i]) ∧ Kp w w' base (fun b => b = mb ∨ b = cx)
set_option maxRecDepth 100000 in
set_option maxHeartbeats 2000000 in
theorem next_any (mb cx base : Nat) (hp cv bv v : Value) (x : Sp) (i : Nat) (d : Bool) (xs : List Value) (n : Nat) (w : World) (hM : Blk w mb #[hp, cv, bv, v] 77) (hC : Blk w cx (clC x i d) 80) (hO : w.ownsRow base 3 1 v n xs) (hn : n ≤ 1000) (hne : mb ≠ cx) (h1 : mb < base) (h2 : cx < base) (h3 : base ≤ w.heap.size) :
    Calls Try.prog 58 #[.pointer (some ⟨mb, 0, none⟩), .pointer (some ⟨cx, 0, none⟩)] w (NextIs mb cx base hp cv bv x i xs n w) := by
  obtain ⟨ii, hi, hz0, hz1, hz2⟩ := info_parts info3
  have M1 := Lib.hid (hM.setOther (a := ⟨cx, 7, none⟩) hne (.bool true))
  have C1 := Lib.hid (hC.set 7 (.bool true) (cs' := clC x i true) rfl)
  have hb : ∀ g, v.ownBlock = some g → base ≤ g := fun g e => (hO.lt g e).1
  have O1 := Lib.hid (hO.kept (set_grown w cx 7 (.bool true)) (.inr fun e => by have := hb cx e; omega))
  have hv1 := Lib.hid hb
  have f7 := hC.frozen 7
  have c7 := hC.cell (i := 7) rfl
  have GK := Lib.hid (set_grown w cx 7 (.bool true))
  have hs1 : (w.setCell ⟨cx, 7, none⟩ (.bool true)).heap.size = w.heap.size := by simp
  clear hM hC hO hb
  go_enter Try.func58, Try.ntmps58
  go_wp2_with fail
  clear f7 c7
  generalize w.setCell ⟨cx, 7, none⟩ (.bool true) = wr at *
  have MA := Lib.hid (show Blk wr.drew mb #[hp, cv, bv, v] 77 from M1.out)
  have CA := Lib.hid (show Blk wr.drew cx (clC x i true) 80 from C1.out)
  have OA := Lib.hid (show wr.drew.ownsRow base 3 1 v n xs from O1.out)
  have KA := Lib.hid (show Kp w wr.drew base (fun b => b = mb ∨ b = cx) from (Kp.of_grown GK.out (fun g e => by cases e; exact .inl (.inr rfl))).trans (Kp.of_below (Below.refl _ wr).drew))
  have hsA : base ≤ wr.drew.heap.size := by show base ≤ wr.heap.size; omega
  refine till_start 13 (fun w' : World => w'.frozen? ⟨mb, 3, none⟩ = false ∧ w'.cell? ⟨mb, 3, none⟩ = some v ∧ w'.cell? ⟨cx, 6, none⟩ = some (.int .i64 i)) (by kernel_rfl) ?_
  generalize wr.drew = wA at *
  have BOF : ∀ W : World, Blk W mb #[hp, cv, bv, v] 77 → Blk W cx (clC x i true) 80 → W.frozen? ⟨mb, 3, none⟩ = false ∧ W.cell? ⟨mb, 3, none⟩ = some v ∧ W.cell? ⟨cx, 6, none⟩ = some (.int .i64 i) := fun _ h1 h2 => ⟨h1.frozen 3, h1.cell rfl, h2.cell rfl⟩
  have BO := Lib.hid BOF
  have hHB := BOF _ MA.out CA.out
  clear BOF M1 C1 O1 GK hs1
  refine till_take (i := 0) (v := ?_) rfl (by kernel_rfl) (by kernel_rfl) (by kernel_rfl) (by kernel_rfl) (fun _ _ _ h => h) (Or.inl ⟨by rfl, ?_⟩) hHB ?_
  rotate_left
  · (intro w hSw; (try dsimp only at hSw); go_simp; try with_reducible rfl)
  try simp only [Act.put, List.setIfInBounds_toArray, List.set_cons_zero, List.set_cons_succ]
  refine till_take (i := 1) (v := ?_) rfl (by kernel_rfl) (by kernel_rfl) (by kernel_rfl) (by kernel_rfl) (fun _ _ _ h => h) (Or.inl ⟨by rfl, ?_⟩) hHB ?_
  rotate_left
  · (intro w hSw; (try dsimp only at hSw); go_simp; try with_reducible rfl)
  try simp only [Act.put, List.setIfInBounds_toArray, List.set_cons_zero, List.set_cons_succ]
  refine till_take (i := 2) (v := ?_) rfl (by kernel_rfl) (by kernel_rfl) (by kernel_rfl) (by kernel_rfl) (fun _ _ _ h => h) (Or.inl ⟨by rfl, ?_⟩) hHB ?_
  rotate_left
  · (intro w hSw; (try dsimp only at hSw); go_simp; try with_reducible rfl)
  try simp only [Act.put, List.setIfInBounds_toArray, List.set_cons_zero, List.set_cons_succ]
  refine till_take (i := 3) (v := ?_) rfl (by kernel_rfl) (by kernel_rfl) (by kernel_rfl) (by kernel_rfl) (fun _ _ _ h => h) (Or.inl ⟨by rfl, ?_⟩) hHB ?_
  rotate_left
  · (intro w hSw; (try dsimp only at hSw); go_simp; try with_reducible rfl)
  try simp only [Act.put, List.setIfInBounds_toArray, List.set_cons_zero, List.set_cons_succ]
  refine till_take (i := 4) (v := ?_) rfl (by kernel_rfl) (by kernel_rfl) (by kernel_rfl) (by kernel_rfl) (fun _ _ _ h => h) (Or.inl ⟨by rfl, ?_⟩) hHB ?_
  rotate_left
  · (intro w hSw; (try dsimp only at hSw); go_simp; try with_reducible rfl)
  try simp only [Act.put, List.setIfInBounds_toArray, List.set_cons_zero, List.set_cons_succ]
  refine till_take (i := 5) (v := ?_) rfl (by kernel_rfl) (by kernel_rfl) (by kernel_rfl) (by kernel_rfl) (fun _ _ _ h => h) (Or.inl ⟨by rfl, ?_⟩) hHB ?_
  rotate_left
  · (intro w hSw; (try dsimp only at hSw); go_simp; try with_reducible rfl)
  try simp only [Act.put, List.setIfInBounds_toArray, List.set_cons_zero, List.set_cons_succ]
  refine till_take (i := 6) (v := ?_) rfl (by kernel_rfl) (by kernel_rfl) (by kernel_rfl) (by kernel_rfl) (fun _ _ _ h => h) (Or.inl ⟨by rfl, ?_⟩) hHB ?_
  rotate_left
  · (intro w hSw; (try dsimp only at hSw); go_simp; try with_reducible rfl)
  try simp only [Act.put, List.setIfInBounds_toArray, List.set_cons_zero, List.set_cons_succ]
  refine till_take (i := 7) (v := ?_) rfl (by kernel_rfl) (by kernel_rfl) (by kernel_rfl) (by kernel_rfl) (fun _ _ _ h => h) (Or.inl ⟨by rfl, ?_⟩) hHB ?_
  rotate_left
  · (intro w hSw; (try dsimp only at hSw); go_simp; try with_reducible rfl)
  try simp only [Act.put, List.setIfInBounds_toArray, List.set_cons_zero, List.set_cons_succ]
  refine till_take (i := 8) (v := ?_) rfl (by kernel_rfl) (by kernel_rfl) (by kernel_rfl) (by kernel_rfl) (fun _ _ _ h => h) (Or.inl ⟨by rfl, ?_⟩) hHB ?_
  rotate_left
  · (intro w hSw; (try dsimp only at hSw); go_simp; try with_reducible rfl)
  try simp only [Act.put, List.setIfInBounds_toArray, List.set_cons_zero, List.set_cons_succ]
  clear hHB
  refine till_one (i := 9) (by kernel_rfl) rfl (fun K hK => ?_)
  go_simp
  refine hK.out _ _ (fun _ => BO.out _ (MA.out.alloc _) (CA.out.alloc _)) ?_
  clear hK K
  try simp only [Act.put, List.setIfInBounds_toArray, List.set_cons_zero, List.set_cons_succ]
  refine till_one (i := 10) (by kernel_rfl) rfl (fun K hK => ?_)
  (refine step_append_lies _ (by rfl) _ _ _ (by rfl) base 3 ii _ 1 8 Try.underlying46 hi hz0 hz1 hz2 rfl (by omega) v n _ (by rfl) (OA.out.alloc _)
                ⟨wA.heap.size, 0, none⟩ 1 1 [encN i] (by rfl) (by rfl) (World.news_of_block (cs := #[encN i]) (t := 3) (fr := (0, 0)) (heap_alloc_new wA _)) (by simp [Value.oneCell'])
                (by omega) (by unfold maxLen; omega) (by omega) (by simp; omega) (wA.heap.size + 1) (by simp) ?_; intro gg cc w1 hown1 hgrow hat hlt)
  have hmb : mb < wA.heap.size := MA.out.lt
  have hcx : cx < wA.heap.size := CA.out.lt
  have M2 := Lib.hid (show Blk w1 mb #[hp, cv, bv, v] 77 from (MA.out.alloc (.cells #[encN i] 3)).grown hgrow (fun e => by have := hv1.out mb e.symm; omega))
  have C2 := Lib.hid (show Blk w1 cx (clC x i true) 80 from (CA.out.alloc (.cells #[encN i] 3)).grown hgrow (fun e => by have := hv1.out cx e.symm; omega))
  have K2 := Lib.hid (KA.out.trans ((Kp.of_below ((Below.refl _ wA).alloc (Nat.le_refl _) (.cells #[encN i] 3))).trans (Kp.of_grown hgrow (fun g e => .inr (hv1.out g e)))))
  have O2 := Lib.hid hown1
  refine hK.out _ _ (fun _ => BO.out _ M2.out C2.out) ?_
  clear hK K hown1 hgrow
  try simp only [Act.put, List.setIfInBounds_toArray, List.set_cons_zero, List.set_cons_succ]
  refine till_one (i := 11) (by kernel_rfl) rfl (fun K hK => ?_)
  go_simp
  refine hK.out _ _ (fun _ => BO.out _ M2.out C2.out) ?_
  clear hK K
  try simp only [Act.put, List.setIfInBounds_toArray, List.set_cons_zero, List.set_cons_succ]
  refine till_one (i := 12) (by kernel_rfl) rfl (fun K hK => ?_)
  go_simp
  refine hK.out _ _ (fun _ => BO.out _ M2.out C2.out) ?_
  clear hK K
  try simp only [Act.put, List.setIfInBounds_toArray, List.set_cons_zero, List.set_cons_succ]
  have s2 := M2.out.frozen 3
  have s1 := M2.out.cell (i := 3) rfl
  refine till_one (i := 13) (by kernel_rfl) rfl (fun K hK => ?_)
  go_simp
  refine hK.out _ _ (fun h => absurd rfl h) ?_
  clear hK K s1 s2
  try simp only [Act.put, List.setIfInBounds_toArray, List.set_cons_zero, List.set_cons_succ]
  refine till_done (by kernel_rfl) ?_ _
  have M3 := Lib.hid (M2.out.set 3 (.slice (some ⟨gg, 0, none⟩) (n + 1) cc) (cs' := #[hp, cv, bv, .slice (some ⟨gg, 0, none⟩) (n + 1) cc]) rfl)
  have C3 := Lib.hid (C2.out.setOther (a := ⟨mb, 3, none⟩) (Ne.symm hne) (.slice (some ⟨gg, 0, none⟩) (n + 1) cc))
  have hgb : base ≤ gg := (O2.out.lt gg rfl).1
  have hgm : gg ≠ mb := by omega
  have O3 := Lib.hid (O2.out.kept (set_grown w1 mb 3 (.slice (some ⟨gg, 0, none⟩) (n + 1) cc)) (.inr (by simpa [Value.ownBlock] using hgm)))
  have K3 := Lib.hid (K2.out.trans (Kp.of_grown (set_grown w1 mb 3 (.slice (some ⟨gg, 0, none⟩) (n + 1) cc)) (fun g e => by cases e; exact .inl (.inl rfl))))
  go_wp2_with fail
  go_end0
  exact ⟨rfl, _, M3.out, C3.out, O3.out, K3.out⟩
end Go.Proofs.Ythmkmjoeceghiaa
