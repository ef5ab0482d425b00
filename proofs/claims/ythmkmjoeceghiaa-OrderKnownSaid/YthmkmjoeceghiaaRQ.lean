/- OrderKnown. -/
import Derived.Test.YthmkmjoeceghiaaRO
import Derived.Test.YthmkmjoeceghiaaRH
import Derived.Deep.DeepCutAuto
namespace Go.Proofs.Ythmkmjoeceghiaa
open Go.RowKit

attribute [local go_sem ↓] Go.wp_at_zero Go.wp_at_succ
def bads : List Sp := [((0, 0, 0, 0), 0, 0), ((0, 1, 0, 0), 0, 0), ((5, 1, 0, 0), 0, 0), ((1, 1, 0, 0), -1, 0), ((1, 1, 0, 0), 3, 2), ((1, 1, 0, 0), 0, -2), ((1, 1, 0, 0), 9007199254740992, -1), ((1, 1, 0, 0), 0, 9007199254740992), ((2, 1, 0, 0), 0, 0)]
theorem bads_chk (i : Nat) (h : i < 9) : chk [sp bads i] = 2 := by
  have : ∀ i : Fin 9, chk [sp bads i.1] = 2 := by decide
  exact this ⟨i, h⟩
theorem wfS_one {l : List Sp} (h : WfS l) {i : Nat} (hi : i < l.length) : WfS [sp l i] := fun x hx => by
  obtain rfl := List.mem_singleton.1 hx
  rw [sp_at (List.getElem?_eq_getElem hi)]
  exact h _ (List.getElem_mem hi)
theorem isSpans_one {w : World} {g off : Nat} {l : List Sp} (h : IsSpans w (some ⟨g, off, none⟩) l) {i : Nat} (hi : i < l.length) : IsSpans w (some ⟨g, off + i * 6, none⟩) [sp l i] := fun _ => by
  refine ⟨g, off + i * 6, rfl, fun k c hk => ?_⟩
  have hk1 := (List.getElem?_eq_some_iff.1 hk).1
  have hk0 : k = 0 := by simp at hk1; omega
  subst hk0
  obtain rfl : sp l i = c := by simpa using hk
  have := h.at hi
  simpa using this
def manyS (i : Nat) : Sp := ((1 + 2 * ((i : Int) % 2), 1, 0, 0), (i : Int), (i : Int) + 3)
def many (n : Nat) : List Sp := (List.range n).map manyS
theorem many_len (n : Nat) : (many n).length = n := by unfold many; simp
theorem many_succ (n : Nat) : many (n + 1) = many n ++ [manyS n] := by unfold many; rw [List.range_succ, List.map_append]; rfl
theorem many_wf (n : Nat) : WfS (many n) := fun x hx => by
  obtain ⟨i, _, rfl⟩ := List.mem_map.1 hx
  unfold manyS WfO IsI; dsimp only; omega
theorem many_take {m n : Nat} (h : m ≤ n) : (many n).take m = many m := by
  unfold many
  rw [← List.map_take, List.take_range, Nat.min_eq_left h]
/-- an order of the walk's own lies in cell i -/
def OrdAt (w : World) (G i : Nat) : Prop := ∃ (c : Option Addr) (kc : Nat) (o : List Int), w.cell? ⟨G, i, none⟩ = some (.slice c o.length kc) ∧ IsSl encI w c o ∧ o.length ≤ kc
/-- blocks, one after another -/
def alls (W : World) : List (Array Value × TypeId) → World
  | [] => W
  | x :: cs => alls (W.alloc (.cells x.1 x.2)) cs
theorem alls_keep : ∀ (cs : List (Array Value × TypeId)) (W : World) {g : Nat} {c : Array Value} {t : TypeId}, Blk W g c t → Blk (alls W cs) g c t
  | [], _, _, _, _, h => h
  | x :: cs, W, _, _, _, h => alls_keep cs (W.alloc (.cells x.1 x.2)) (h.alloc _)
theorem alls_blk : ∀ (cs : List (Array Value × TypeId)) (W : World) (k : Nat) (c : Array Value) (t : TypeId), cs[k]? = some (c, t) → Blk (alls W cs) (W.heap.size + k) c t
  | [], W, k, c, t, h => by simp at h
  | x :: cs, W, 0, c, t, h => by
    obtain rfl : x = (c, t) := by simpa using h
    exact alls_keep cs _ (Blk.new W c t)
  | x :: cs, W, k + 1, c, t, h => by
    have := alls_blk cs (W.alloc (.cells x.1 x.2)) k c t (by simpa using h)
    rw [show (W.alloc (.cells x.1 x.2)).heap.size = W.heap.size + 1 by simp] at this
    rwa [show W.heap.size + (k + 1) = W.heap.size + 1 + k by omega]
theorem alls_below : ∀ (cs : List (Array Value × TypeId)) (W : World), Below W.heap.size W (alls W cs)
  | [], W => Below.refl _ _
  | x :: cs, W => on2 ((Below.refl _ W).alloc (Nat.le_refl _) (.cells x.1 x.2)) (alls_below cs _)
def ordsB (g : Nat) : List (Array Value × TypeId) := [(#[.int .i64 0], 3), (#[.int .i64 1], 3), (#[.int .i64 0, .int .i64 1], 3), (#[.int .i64 1, .int .i64 0], 3), (#[.int .i64 0, .int .i64 0], 3), (#[.int .i64 (-1)], 3), (#[.int .i64 2], 3), (#[.int .i64 0, .int .i64 1, .int .i64 2], 3),
  (#[.slice none 0 0, .slice (some ⟨g, 0, none⟩) 1 1, .slice (some ⟨g + 1, 0, none⟩) 1 1, .slice (some ⟨g + 2, 0, none⟩) 2 2, .slice (some ⟨g + 3, 0, none⟩) 2 2, .slice (some ⟨g + 4, 0, none⟩) 2 2, .slice (some ⟨g + 5, 0, none⟩) 1 1, .slice (some ⟨g + 6, 0, none⟩) 1 1, .slice (some ⟨g + 7, 0, none⟩) 3 3], 46)]
theorem ords_at (W : World) (i : Nat) (hi : i < 9) : OrdAt (alls W (ordsB W.heap.size)) (W.heap.size + 8) i := by
  have hB := alls_blk (ordsB W.heap.size) W 8 _ _ rfl
  have h : i = 0 ∨ i = 1 ∨ i = 2 ∨ i = 3 ∨ i = 4 ∨ i = 5 ∨ i = 6 ∨ i = 7 ∨ i = 8 := by omega
  rcases h with rfl | rfl | rfl | rfl | rfl | rfl | rfl | rfl | rfl
  · exact ⟨none, 0, [], hB.cell rfl, IsSl.nil, Nat.le_refl _⟩
  · exact ⟨_, 1, [0], hB.cell rfl, isInts_blk (alls_blk (ordsB W.heap.size) W 0 _ _ rfl) rfl (by decide), Nat.le_refl _⟩
  · exact ⟨_, 1, [1], hB.cell rfl, isInts_blk (alls_blk (ordsB W.heap.size) W 1 _ _ rfl) rfl (by decide), Nat.le_refl _⟩
  · exact ⟨_, 2, [0, 1], hB.cell rfl, isInts_blk (alls_blk (ordsB W.heap.size) W 2 _ _ rfl) rfl (by decide), Nat.le_refl _⟩
  · exact ⟨_, 2, [1, 0], hB.cell rfl, isInts_blk (alls_blk (ordsB W.heap.size) W 3 _ _ rfl) rfl (by decide), Nat.le_refl _⟩
  · exact ⟨_, 2, [0, 0], hB.cell rfl, isInts_blk (alls_blk (ordsB W.heap.size) W 4 _ _ rfl) rfl (by decide), Nat.le_refl _⟩
  · exact ⟨_, 1, [-1], hB.cell rfl, isInts_blk (alls_blk (ordsB W.heap.size) W 5 _ _ rfl) rfl (by decide), Nat.le_refl _⟩
  · exact ⟨_, 1, [2], hB.cell rfl, isInts_blk (alls_blk (ordsB W.heap.size) W 6 _ _ rfl) rfl (by decide), Nat.le_refl _⟩
  · exact ⟨_, 3, [0, 1, 2], hB.cell rfl, isInts_blk (alls_blk (ordsB W.heap.size) W 7 _ _ rfl) rfl (by decide), Nat.le_refl _⟩
theorem OrdAt.below {W W' : World} {G i : Nat} (h : OrdAt W G i) (hb : Below W.heap.size W W') : OrdAt W' G i := by
  obtain ⟨c, kc, o, h1, h2, h3⟩ := h
  exact ⟨c, kc, o, below_cell hb (Nat.le_refl _) h1, h2.below hb, h3⟩
def twoS : List Sp := [((1, 1, 0, 0), 0, 5), ((3, 1, 0, 0), 3, 4)]
def pendS : List Sp := [((1, 1, 0, 0), 0, -1), ((4, 1, 0, 0), 2, -1)]
def mostS : List Sp := [((2, 0, 0, 0), 9007199254740991, 9007199254740991)]
theorem own_nil {w : World} {base n c : Nat} {e : TypeId} {s : Nat} {a : Option Addr} {xs : List Value} (h : w.ownsRow base e s (.slice a n c) n xs) : a = none → c = 0 := fun ha => by
  rcases h.2 with ⟨h1, _⟩ | ⟨g, cap, cur, h1, _⟩
  · injection h1
  · subst ha; cases h1
def fourS (a b k : Nat) : List Sp := [((1, 1, 0, 0), 0, (k : Int)), (((a : Int), 1, 0, 0), (k : Int), 5), (((b : Int), 1, 0, 0), 2, 2 + (k : Int)), ((3, 1, 0, 0), 1, 4 - 5 * ((k : Int) / 5))]
theorem lines_at (l : List Sp) (a : Option Addr) (la cap : Nat) (w : World) (h : l.length = la) (hl : la ≤ 1000) (hcl : la ≤ cap) (hnil : a = none → cap = 0) (hw : WfS l) (hI : IsSpans w a l) : Calls Try.prog 7 #[.slice a la cap] w (LinesIs w) := by
  subst h; exact orderlines_any l a cap w (by omega) hcl hnil hw hI
theorem holdsl_at (l : List Sp) (o : List Int) (a c : Option Addr) (la lo cap kc : Nat) (w : World) (h : l.length = la) (h' : o.length = lo) (hl : la ≤ 1000) (hcl : la ≤ cap) (hck : lo ≤ kc) (hw : WfS l) (hI : IsSpans w a l) (hO : IsSl encI w c o) : Calls Try.prog 8 #[.slice a la cap, .slice c lo kc] w (LinesIs w) := by
  subst h h'; exact orderholds_any l o a c cap kc w (by omega) hcl hck hw hI hO
theorem exact_at (l : List Sp) (a : Option Addr) (la cap : Nat) (w : World) (h : l.length = la) (hl : la ≤ 1000) (hI : IsSpans w a l) : Calls Try.prog 10 #[.slice a la cap] w (LinesIs w) := by
  subst h; exact orderexact_any l a cap w (by omega) hI
theorem small_at (l : List Sp) (a : Option Addr) (la cap : Nat) (w : World) (h : l.length = la) (hl : la ≤ 1000) (hI : IsSpans w a l) : Calls Try.prog 34 #[.slice a la cap] w (SmallIs l w) := by
  subst h; exact small_any l a cap w (by omega) hI
theorem check_at (l : List Sp) (q : Int) (a : Option Addr) (la cap : Nat) (w : World) (h : l.length = la) (hl : la ≤ 1000) (hq : chk l = q) (hI : IsSpans w a l) : Calls Try.prog 28 #[.slice a la cap] w fun e w' => e = .returned (.int .i64 q) ∧ Below w.heap.size w w' := by
  subst h hq; exact check_any l a cap w (by omega) hI
set_option maxRecDepth 100000 in
set_option maxHeartbeats 8000000 in
theorem orderknown_any (w : World) : Calls Try.prog 13 #[] w (LinesIs w) := by
  obtain ⟨j0, hj, hy0, hy1, hy2⟩ := info_parts info50
  have HB := Lib.hid (Below.refl w.heap.size w)
  go_enter Try.func13, Try.ntmps13
  go_wp2_with fail
  refine (span_any _ _ _ _).mono ?_
  rintro e wa ⟨rfl, hb⟩
  replace HB := Lib.hid (on2 HB.out hb)
  clear hb
  go_wp2_with fail
  refine (span_any _ _ _ _).mono ?_
  rintro e wb ⟨rfl, hb⟩
  replace HB := Lib.hid (on2 HB.out hb)
  clear hb
  go_wp2_with fail
  refine (span_any _ _ _ _).mono ?_
  rintro e wc ⟨rfl, hb⟩
  replace HB := Lib.hid (on2 HB.out hb)
  clear hb
  go_wp2_with fail
  refine (span_any _ _ _ _).mono ?_
  rintro e wd ⟨rfl, hb⟩
  replace HB := Lib.hid (on2 HB.out hb)
  clear hb
  go_wp2_with fail
  refine (span_any _ _ _ _).mono ?_
  rintro e we ⟨rfl, hb⟩
  replace HB := Lib.hid (on2 HB.out hb)
  clear hb
  go_wp2_with fail
  refine (span_any _ _ _ _).mono ?_
  rintro e wf ⟨rfl, hb⟩
  replace HB := Lib.hid (on2 HB.out hb)
  clear hb
  go_wp2_with fail
  refine (span_any _ _ _ _).mono ?_
  rintro e wg ⟨rfl, hb⟩
  replace HB := Lib.hid (on2 HB.out hb)
  clear hb
  go_wp2_with fail
  refine (span_any _ _ _ _).mono ?_
  rintro e wh ⟨rfl, hb⟩
  replace HB := Lib.hid (on2 HB.out hb)
  clear hb
  go_wp2_with fail
  have hbn := (Below.refl wh.heap.size wh).alloc (Nat.le_refl _) (.cells #[.int .i64 0, .int .i64 0, .int .i64 0, .int .i64 0, .int .i64 0, .int .i64 0, .int .i64 0, .int .i64 1, .int .i64 0, .int .i64 0, .int .i64 0, .int .i64 0, .int .i64 5, .int .i64 1, .int .i64 0, .int .i64 0, .int .i64 0, .int .i64 0, .int .i64 1, .int .i64 1, .int .i64 0, .int .i64 0, .int .i64 (-1), .int .i64 0, .int .i64 1, .int .i64 1, .int .i64 0, .int .i64 0, .int .i64 3, .int .i64 2, .int .i64 1, .int .i64 1, .int .i64 0, .int .i64 0, .int .i64 0, .int .i64 (-2), .int .i64 1, .int .i64 1, .int .i64 0, .int .i64 0, .int .i64 9007199254740992, .int .i64 (-1), .int .i64 1, .int .i64 1, .int .i64 0, .int .i64 0, .int .i64 0, .int .i64 9007199254740992, .int .i64 2, .int .i64 1, .int .i64 0, .int .i64 0, .int .i64 0, .int .i64 0] 50)
  have BD := Lib.hid (show IsSpans (wh.alloc (.cells #[.int .i64 0, .int .i64 0, .int .i64 0, .int .i64 0, .int .i64 0, .int .i64 0, .int .i64 0, .int .i64 1, .int .i64 0, .int .i64 0, .int .i64 0, .int .i64 0, .int .i64 5, .int .i64 1, .int .i64 0, .int .i64 0, .int .i64 0, .int .i64 0, .int .i64 1, .int .i64 1, .int .i64 0, .int .i64 0, .int .i64 (-1), .int .i64 0, .int .i64 1, .int .i64 1, .int .i64 0, .int .i64 0, .int .i64 3, .int .i64 2, .int .i64 1, .int .i64 1, .int .i64 0, .int .i64 0, .int .i64 0, .int .i64 (-2), .int .i64 1, .int .i64 1, .int .i64 0, .int .i64 0, .int .i64 9007199254740992, .int .i64 (-1), .int .i64 1, .int .i64 1, .int .i64 0, .int .i64 0, .int .i64 0, .int .i64 9007199254740992, .int .i64 2, .int .i64 1, .int .i64 0, .int .i64 0, .int .i64 0, .int .i64 0] 50)) (some ⟨wh.heap.size, 0, none⟩) bads from isSpans_lit rfl)
  have WB := Lib.hid (show WfS bads from wfS_of _ (by kernel_rfl))
  replace HB := Lib.hid (on2 HB.out hbn)
  clear hbn
  generalize wh.alloc (.cells #[.int .i64 0, .int .i64 0, .int .i64 0, .int .i64 0, .int .i64 0, .int .i64 0, .int .i64 0, .int .i64 1, .int .i64 0, .int .i64 0, .int .i64 0, .int .i64 0, .int .i64 5, .int .i64 1, .int .i64 0, .int .i64 0, .int .i64 0, .int .i64 0, .int .i64 1, .int .i64 1, .int .i64 0, .int .i64 0, .int .i64 (-1), .int .i64 0, .int .i64 1, .int .i64 1, .int .i64 0, .int .i64 0, .int .i64 3, .int .i64 2, .int .i64 1, .int .i64 1, .int .i64 0, .int .i64 0, .int .i64 0, .int .i64 (-2), .int .i64 1, .int .i64 1, .int .i64 0, .int .i64 0, .int .i64 9007199254740992, .int .i64 (-1), .int .i64 1, .int .i64 1, .int .i64 0, .int .i64 0, .int .i64 0, .int .i64 9007199254740992, .int .i64 2, .int .i64 1, .int .i64 0, .int .i64 0, .int .i64 0, .int .i64 0] 50) = W at *
  generalize wh.heap.size = G at *
  go_loopw [2] (fun iv wr => ∃ i : Nat, i ≤ 9 ∧ iv = .int .i64 i ∧ Below W.heap.size W wr) (fun iv _ => 9 - (intOf iv).toNat)
  case atStart => exact ⟨0, Nat.zero_le _, rfl, Below.refl _ _⟩
  case round =>
    obtain ⟨i, hi9, rfl, hB⟩ := hrel
    have BB := Lib.hid hB
    clear hB
    by_cases hlt : i < 9
    · have z0 : (0 : Int) ≤ (i : Int) := by omega
      have z1 : (i : Int) < 9 := by omega
      have HC := Lib.hid (bads_chk i hlt)
      have WO := Lib.hid (wfS_one WB.out (i := i) (by simpa [bads] using hlt))
      have HI := Lib.hid (show ∀ X, Below W.heap.size W X → IsSpans X (some ⟨G, i * 6, none⟩) [sp bads i] from fun X h => by
        have := isSpans_one (BD.out.below h) (i := i) (by simpa [bads] using hlt)
        rwa [Nat.zero_add] at this)
      have hi1 : 1 ≤ 9 - i := by omega
      go_wp2_with fail
      refine (check_at [sp bads i] 2 _ 1 _ _ rfl (by decide) HC.out (HI.out _ BB.out)).mono ?_
      rintro e x1 ⟨rfl, hb⟩
      replace BB := Lib.hid (on2 BB.out hb)
      clear hb
      go_wp2_with fail
      refine (lines_at [sp bads i] _ 1 _ _ rfl (by decide) hi1 (fun h => by cases h) WO.out (HI.out _ BB.out)).mono ?_
      rintro e x2 ⟨rfl, hb⟩
      replace BB := Lib.hid (on2 BB.out hb)
      clear hb
      have BN := Lib.hid ((Below.refl x2.heap.size x2).alloc (Nat.le_refl _) (.cells #[.int .i64 0] 3))
      go_wp2_with fail
      refine (holdsl_at [sp bads i] [0] _ _ 1 1 _ _ _ rfl rfl (by decide) hi1 (Nat.le_refl _) WO.out (HI.out _ (on2 BB.out BN.out)) (isInts_lit rfl (by decide))).mono ?_
      rintro e x3 ⟨rfl, hb⟩
      replace BB := Lib.hid (on2 BB.out (on2 BN.out hb))
      clear hb
      go_wp2_with fail
      go_roundw
      case rel => exact ⟨i + 1, by omega, by go_num, BB.out⟩
      case measure => simp [intOf]; omega
    · obtain ⟨q9, hq9⟩ : ∃ q : Int, q = (i : Int) := ⟨_, rfl⟩
      rw [← hq9]
      have hq9' : decide (q9 < 9) = false := decide_eq_false (by omega)
      replace HB := Lib.hid (on2 HB.out BB.out)
      clear BD WB BB hlt hi9 hq9
      go_wp2_with fail
      generalize wr = X at *
      go_loopw [3, 4] (fun mv iv wr => ∃ i : Nat, i ≤ 257 ∧ iv = .int .i64 i ∧ wr.ownsRow X.heap.size 50 6 mv i ((many i).flatMap spCells) ∧ Below X.heap.size X wr) (fun _ iv _ => 257 - (intOf iv).toNat)
      case atStart => exact ⟨0, Nat.zero_le _, rfl, World.ownsRow_nil _ _ _ _, Below.refl _ _⟩
      case round =>
        obtain ⟨i, hi9, rfl, hO, hB⟩ := hrel
        have OU := Lib.hid hO
        have BB := Lib.hid hB
        obtain ⟨ma, mk, rfl, -, -⟩ := owns_form hO
        clear hO hB
        by_cases hlt : i < 257
        · have z0 : (0 : Int) ≤ (i : Int) := by omega
          have z1 : (i : Int) < 257 := by omega
          have a1 := Int.emod_nonneg (i : Int) (show (2 : Int) ≠ 0 by decide)
          have a2 := Int.emod_lt_of_pos (i : Int) (show (0 : Int) < 2 by decide)
          go_wp2_with fail
          refine (span_any _ _ _ _).mono ?_
          rintro e x1 ⟨rfl, hb⟩
          have B1 := Lib.hid (on2 BB.out hb)
          have O1 := Lib.hid (owns_below OU.out hb)
          have hs1 := B1.out.size
          clear hb
          go_wp2_with (at_builtin; refine wpList_append_own _ rfl _ _ 45 rfl X.heap.size 50 j0 _ 6 48 Try.underlying45 hj hy0 hy1 hy2 rfl (by decide) _ _ _ rfl (O1.out.alloc _) ⟨x1.heap.size, 0, none⟩ 1 1 (spCells (manyS i)) rfl rfl (World.news_of_block (cs := (spCells (manyS i)).toArray) (t := 50) (fr := (0, 0)) (by simpa [manyS, spCells] using heap_alloc_new x1 _)) (by simp [Value.oneCell', spCells]) (by unfold maxLen; omega) (by omega) (by simp; omega) ?_; intro v2 we p2 g2 _)
          have ON := Lib.hid (show we.ownsRow X.heap.size 50 6 v2 (i + 1) ((many (i + 1)).flatMap spCells) from by
            rw [many_succ, List.flatMap_append]; simpa using p2)
          have BN := Lib.hid ((B1.out.alloc B1.out.size _).grown g2 (by simp; omega) (fun g e => (O1.out.lt g e).1))
          clear p2 g2
          go_roundw
          case rel => exact ⟨i + 1, by omega, by go_num, ON.out, BN.out⟩
          case measure => simp [intOf]; omega
        · obtain ⟨q257, hq257⟩ : ∃ q : Int, q = (i : Int) := ⟨_, rfl⟩
          rw [← hq257]
          have hq257' : decide (q257 < 257) = false := decide_eq_false (by omega)
          obtain rfl : i = 257 := by omega
          have IM := Lib.hid (isSpans_own OU.out)
          replace HB := Lib.hid (on2 HB.out BB.out)
          have hmk : 257 ≤ mk := by obtain ⟨_, _, h1, h2, _⟩ := owns_form OU.out; injection h1 with _ _ h3; omega
          obtain ⟨mg, _, hmv, -, -⟩ := OU.out.form (by decide)
          obtain rfl : ma = some ⟨mg, 0, none⟩ := by injection hmv
          clear OU BB hlt hi9 hq257 hmv
          have OA := Lib.hid (ords_at wr)
          have BA := Lib.hid (alls_below (ordsB wr.heap.size) wr)
          go_upto_region 12 with fail
          go_cut [5] (fun s5 wx => ∃ G5, s5 = .slice (some ⟨G5, 0, none⟩) 9 9 ∧ (∀ i, i < 9 → OrdAt wx G5 i) ∧ Below wr.heap.size wr wx)
          case first =>
            go_wp2_with fail
            go_meet
            exact ⟨_, rfl, OA.out, BA.out⟩
          case rest =>
            obtain ⟨G5, rfl, hO5, hb5⟩ := hcut
            have O5 := Lib.hid hO5
            replace HB := Lib.hid (on2 HB.out hb5)
            replace IM := Lib.hid (IM.out.below hb5)
            clear hO5 hb5 OA BA
            go_wp2_with fail
            have hxx : True := trivial
            refine (span_any _ _ _ _).mono ?_
            rintro e xa ⟨rfl, hb⟩
            have B1 := Lib.hid hb
            clear hb
            go_wp2_with fail
            refine (span_any _ _ _ _).mono ?_
            rintro e xb ⟨rfl, hb⟩
            replace B1 := Lib.hid (on2 B1.out hb)
            clear hb
            have T2 := Lib.hid (Blk.new xb #[.int .i64 1, .int .i64 1, .int .i64 0, .int .i64 0, .int .i64 0, .int .i64 5, .int .i64 3, .int .i64 1, .int .i64 0, .int .i64 0, .int .i64 3, .int .i64 4] 50)
            replace B1 := Lib.hid (on2 B1.out ((Below.refl xb.heap.size xb).alloc (Nat.le_refl _) (.cells #[.int .i64 1, .int .i64 1, .int .i64 0, .int .i64 0, .int .i64 0, .int .i64 5, .int .i64 3, .int .i64 1, .int .i64 0, .int .i64 0, .int .i64 3, .int .i64 4] 50)))
            go_wp2_with fail
            generalize xb.alloc (.cells #[.int .i64 1, .int .i64 1, .int .i64 0, .int .i64 0, .int .i64 0, .int .i64 5, .int .i64 3, .int .i64 1, .int .i64 0, .int .i64 0, .int .i64 3, .int .i64 4] 50) = xc at *
            generalize xb.heap.size = G6 at *
            refine (span_any _ _ _ _).mono ?_
            rintro e xd ⟨rfl, hb⟩
            replace B1 := Lib.hid (on2 B1.out hb)
            replace T2 := Lib.hid (T2.out.below hb)
            clear hb
            go_wp2_with fail
            refine (span_any _ _ _ _).mono ?_
            rintro e xe ⟨rfl, hb⟩
            replace B1 := Lib.hid (on2 B1.out hb)
            replace T2 := Lib.hid (T2.out.below hb)
            clear hb
            have hbn := (Below.refl xe.heap.size xe).alloc (Nat.le_refl _) (.cells #[.int .i64 1, .int .i64 1, .int .i64 0, .int .i64 0, .int .i64 0, .int .i64 (-1), .int .i64 4, .int .i64 1, .int .i64 0, .int .i64 0, .int .i64 2, .int .i64 (-1)] 50)
            have T3 := Lib.hid (Blk.new xe #[.int .i64 1, .int .i64 1, .int .i64 0, .int .i64 0, .int .i64 0, .int .i64 (-1), .int .i64 4, .int .i64 1, .int .i64 0, .int .i64 0, .int .i64 2, .int .i64 (-1)] 50)
            replace T2 := Lib.hid (T2.out.below hbn)
            replace B1 := Lib.hid (on2 B1.out hbn)
            clear hbn
            go_wp2_with fail
            generalize xe.alloc (.cells #[.int .i64 1, .int .i64 1, .int .i64 0, .int .i64 0, .int .i64 0, .int .i64 (-1), .int .i64 4, .int .i64 1, .int .i64 0, .int .i64 0, .int .i64 2, .int .i64 (-1)] 50) = Y at *
            generalize xe.heap.size = G7 at *
            have I2 := Lib.hid (show IsSpans Y (some ⟨G6, 0, none⟩) twoS from isSpans_blk T2.out rfl)
            have I3 := Lib.hid (show IsSpans Y (some ⟨G7, 0, none⟩) pendS from isSpans_blk T3.out rfl)
            have W2 := Lib.hid (show WfS twoS from wfS_of _ (by kernel_rfl))
            have W3 := Lib.hid (show WfS pendS from wfS_of _ (by kernel_rfl))
            replace HB := Lib.hid (on2 HB.out B1.out)
            replace IM := Lib.hid (IM.out.below B1.out)
            replace O5 := Lib.hid (show ∀ i, i < 9 → OrdAt Y G5 i from fun i hi => (O5.out i hi).below B1.out)
            clear T2 T3 B1 hxx
            go_loopw [8] (fun iv wr => ∃ i : Nat, i ≤ 9 ∧ iv = .int .i64 i ∧ Below Y.heap.size Y wr) (fun iv _ => 9 - (intOf iv).toNat)
            case atStart => exact ⟨0, Nat.zero_le _, rfl, Below.refl _ _⟩
            case round =>
              obtain ⟨i, hi9, rfl, hB⟩ := hrel
              have BB := Lib.hid hB
              clear hB
              by_cases hlt : i < 9
              · have z0 : (0 : Int) ≤ (i : Int) := by omega
                have z1 : (i : Int) < 9 := by omega
                obtain ⟨c, kc, o, hce, hso, hok⟩ := (O5.out i hlt).below BB.out
                have SO := Lib.hid hso
                clear hso
                go_wp2_with fail
                refine (holdsl_at twoS o _ _ 2 o.length _ _ _ rfl rfl (by decide) (Nat.le_refl _) hok W2.out (I2.out.below BB.out) SO.out).mono ?_
                rintro e x1 ⟨rfl, hb⟩
                replace BB := Lib.hid (on2 BB.out hb)
                replace SO := Lib.hid (SO.out.below hb)
                replace hce := below_cell hb (Nat.le_refl _) hce
                clear hb
                go_wp2_with fail
                refine (holdsl_at pendS o _ _ 2 o.length _ _ _ rfl rfl (by decide) (Nat.le_refl _) hok W3.out (I3.out.below BB.out) SO.out).mono ?_
                rintro e x2 ⟨rfl, hb⟩
                replace BB := Lib.hid (on2 BB.out hb)
                replace SO := Lib.hid (SO.out.below hb)
                replace hce := below_cell hb (Nat.le_refl _) hce
                clear hb
                go_wp2_with fail
                refine (holdsl_at [] o none _ 0 o.length 0 _ _ rfl rfl (by decide) (Nat.le_refl _) hok (fun x hx => by cases hx) (fun h => absurd rfl h) SO.out).mono ?_
                rintro e x3 ⟨rfl, hb⟩
                replace BB := Lib.hid (on2 BB.out hb)
                clear hb hce SO
                go_wp2_with fail
                go_roundw
                case rel => exact ⟨i + 1, by omega, by go_num, BB.out⟩
                case measure => simp [intOf]; omega
              · obtain ⟨q8, hq8⟩ : ∃ q : Int, q = (i : Int) := ⟨_, rfl⟩
                rw [← hq8]
                have hq8' : decide (q8 < 9) = false := decide_eq_false (by omega)
                replace HB := Lib.hid (on2 HB.out BB.out)
                replace IM := Lib.hid (IM.out.below BB.out)
                replace I3 := Lib.hid (I3.out.below BB.out)
                clear I2 W2 O5 BB hlt hi9 hq8
                go_wp2_with fail
                clear hq8'
                generalize wr = Z at *
                go_loopw [9] (fun av wr => ∃ a : Nat, 1 ≤ a ∧ a ≤ 5 ∧ av = .int .i64 a ∧ Below Z.heap.size Z wr) (fun av _ => 5 - (intOf av).toNat)
                case atStart => exact ⟨1, Nat.le_refl _, by decide, rfl, Below.refl _ _⟩
                case round =>
                  obtain ⟨a, ha1, ha5, rfl, hB⟩ := hrel
                  have BB := Lib.hid hB
                  clear hB
                  by_cases hlt : a ≤ 4
                  · have y1 : (a : Int) ≤ 4 := by omega
                    go_wp2_with fail
                    generalize wr = Z2 at *
                    go_loopw [10] (fun bv wr => ∃ b : Nat, 1 ≤ b ∧ b ≤ 5 ∧ bv = .int .i64 b ∧ Below Z2.heap.size Z2 wr) (fun bv _ => 5 - (intOf bv).toNat)
                    case atStart => exact ⟨1, Nat.le_refl _, by decide, rfl, Below.refl _ _⟩
                    case round =>
                      obtain ⟨b, hb1, hb5, rfl, hB⟩ := hrel
                      have B2 := Lib.hid hB
                      clear hB
                      by_cases hlt2 : b ≤ 4
                      · have y2 : (b : Int) ≤ 4 := by omega
                        go_wp2_with fail
                        generalize wr = Z3 at *
                        go_loopw [11] (fun kv wr => ∃ k : Nat, k ≤ 6 ∧ kv = .int .i64 k ∧ Below Z3.heap.size Z3 wr) (fun kv _ => 6 - (intOf kv).toNat)
                        case atStart => exact ⟨0, Nat.zero_le _, rfl, Below.refl _ _⟩
                        case round =>
                          obtain ⟨k, hk6, rfl, hB⟩ := hrel
                          have B3 := Lib.hid hB
                          clear hB
                          by_cases hlt3 : k < 6
                          · have y3 : (k : Int) < 6 := by omega
                            have y4 : (0 : Int) ≤ (k : Int) := by omega
                            go_wp2_with fail
                            refine (span_any _ _ _ _).mono ?_
                            rintro e xa ⟨rfl, hb⟩
                            replace B3 := Lib.hid (on2 B3.out hb)
                            clear hb
                            go_wp2_with fail
                            refine (span_any _ _ _ _).mono ?_
                            rintro e xb ⟨rfl, hb⟩
                            replace B3 := Lib.hid (on2 B3.out hb)
                            clear hb
                            go_wp2_with fail
                            refine (span_any _ _ _ _).mono ?_
                            rintro e xc ⟨rfl, hb⟩
                            replace B3 := Lib.hid (on2 B3.out hb)
                            clear hb
                            go_wp2_with fail
                            refine (span_any _ _ _ _).mono ?_
                            rintro e xd ⟨rfl, hb⟩
                            replace B3 := Lib.hid (on2 B3.out hb)
                            clear hb
                            have IF := Lib.hid (isSpans_lit (w := xd) (t := 50) (cs := #[.int .i64 1, .int .i64 1, .int .i64 0, .int .i64 0, .int .i64 0, .int .i64 k, .int .i64 a, .int .i64 1, .int .i64 0, .int .i64 0, .int .i64 k, .int .i64 5, .int .i64 b, .int .i64 1, .int .i64 0, .int .i64 0, .int .i64 2, .int .i64 (2 + (k : Int)), .int .i64 3, .int .i64 1, .int .i64 0, .int .i64 0, .int .i64 1, .int .i64 (4 - 5 * ((k : Int) / 5))]) (l := fourS a b k) rfl)
                            replace B3 := Lib.hid (on2 B3.out ((Below.refl xd.heap.size xd).alloc (Nat.le_refl _) (.cells #[.int .i64 1, .int .i64 1, .int .i64 0, .int .i64 0, .int .i64 0, .int .i64 k, .int .i64 a, .int .i64 1, .int .i64 0, .int .i64 0, .int .i64 k, .int .i64 5, .int .i64 b, .int .i64 1, .int .i64 0, .int .i64 0, .int .i64 2, .int .i64 (2 + (k : Int)), .int .i64 3, .int .i64 1, .int .i64 0, .int .i64 0, .int .i64 1, .int .i64 (4 - 5 * ((k : Int) / 5))] 50)))
                            go_wp2_with fail
                            refine (exact_at (fourS a b k) _ 4 _ _ rfl (by decide) IF.out).mono ?_
                            rintro e xe ⟨rfl, hb⟩
                            replace B3 := Lib.hid (on2 B3.out hb)
                            replace IF := Lib.hid (IF.out.below hb)
                            clear hb
                            go_wp2_with fail
                            refine (small_at (fourS a b k) _ 4 _ _ rfl (by decide) IF.out).mono ?_
                            rintro e xf ⟨v, rfl, ho, hb⟩
                            replace B3 := Lib.hid (on2 B3.out hb)
                            obtain ⟨va, vk, rfl, hvk, -⟩ := owns_form ho
                            have IS := Lib.hid (isSpans_own ho)
                            have NL := Lib.hid (own_nil ho)
                            have h6 := smL_len (fourS a b k)
                            clear hb ho IF
                            go_wp2_with fail
                            refine (lines_at (smL (fourS a b k)) va _ vk _ rfl (by omega) hvk NL.out (smL_wf _) IS.out).mono ?_
                            rintro e xg ⟨rfl, hb⟩
                            replace B3 := Lib.hid (on2 B3.out hb)
                            clear hb IS NL hvk h6
                            go_wp2_with fail
                            go_roundw
                            case rel => exact ⟨k + 1, by omega, by go_num, B3.out⟩
                            case measure => simp [intOf]; omega
                          · have y3 : decide (k < 6) = false := decide_eq_false hlt3
                            have y4 : ¬ (k : Int) < 6 := by omega
                            replace B2 := Lib.hid (on2 B2.out B3.out)
                            clear B3 hlt3
                            go_wp2_with fail
                            go_roundw
                            case rel => exact ⟨b + 1, by omega, by omega, by go_num, B2.out⟩
                            case measure => simp [intOf]; omega
                      · have y3 : decide (b ≤ 4) = false := decide_eq_false hlt2
                        have y4 : ¬ (b : Int) ≤ 4 := by omega
                        replace BB := Lib.hid (on2 BB.out B2.out)
                        clear B2 hlt2
                        go_wp2_with fail
                        go_roundw
                        case rel => exact ⟨a + 1, by omega, by omega, by go_num, BB.out⟩
                        case measure => simp [intOf]; omega
                  · obtain ⟨q5, hq5⟩ : ∃ q : Int, q = (a : Int) := ⟨_, rfl⟩
                    rw [← hq5]
                    have hq5' : decide (q5 ≤ 4) = false := decide_eq_false (by omega)
                    replace HB := Lib.hid (on2 HB.out BB.out)
                    replace IM := Lib.hid (IM.out.below BB.out)
                    replace I3 := Lib.hid (I3.out.below BB.out)
                    clear BB hlt ha1 ha5 hq5
                    have TM := Lib.hid (Blk.new wr #[.int .i64 2, .int .i64 0, .int .i64 0, .int .i64 0, .int .i64 9007199254740991, .int .i64 9007199254740991] 50)
                    have B1 := Lib.hid ((Below.refl wr.heap.size wr).alloc (Nat.le_refl _) (.cells #[.int .i64 2, .int .i64 0, .int .i64 0, .int .i64 0, .int .i64 9007199254740991, .int .i64 9007199254740991] 50))
                    have HC := Lib.hid (show chk (many 257) = 5 by unfold chk; rw [if_pos (by rw [many_len]; decide)])
                    go_wp2_with fail
                    clear hq5'
                    refine (works28_any _).mono ?_
                    rintro e y1 ⟨rfl, hb⟩
                    replace TM := Lib.hid (TM.out.below hb)
                    replace B1 := Lib.hid (on2 B1.out hb)
                    clear hb
                    go_wp2_with fail
                    refine (check_at (many 257) 5 _ 257 _ _ (many_len 257) (by decide) HC.out (IM.out.below B1.out)).mono ?_
                    rintro e y2 ⟨rfl, hb⟩
                    replace TM := Lib.hid (TM.out.below hb)
                    replace B1 := Lib.hid (on2 B1.out hb)
                    clear hb
                    go_wp2_with fail
                    refine (lines_at (many 257) _ 257 mk _ (many_len 257) (by decide) hmk (fun h => by cases h) (many_wf 257) (IM.out.below B1.out)).mono ?_
                    rintro e y3 ⟨rfl, hb⟩
                    replace TM := Lib.hid (TM.out.below hb)
                    replace B1 := Lib.hid (on2 B1.out hb)
                    clear hb
                    have hmk2 : 256 ≤ mk := by omega
                    have I4 := Lib.hid (show IsSpans y3 (some ⟨mg, 0, none⟩) (many 256) from by
                      have := (IM.out.below B1.out).take 256
                      rwa [many_take (by decide)] at this)
                    go_wp2_with fail
                    refine (lines_at (many 256) _ 256 mk _ (many_len 256) (by decide) hmk2 (fun h => by cases h) (many_wf 256) I4.out).mono ?_
                    rintro e y4 ⟨rfl, hb⟩
                    replace TM := Lib.hid (TM.out.below hb)
                    replace B1 := Lib.hid (on2 B1.out hb)
                    clear hb I4
                    have hbn := (Below.refl y4.heap.size y4).alloc (Nat.le_refl _) (.cells #[.int .i64 0] 3)
                    have N5 := Lib.hid (isInts_lit (w := y4) (cs := #[.int .i64 0]) (t := 3) (xs := [0]) rfl (by decide))
                    replace TM := Lib.hid (TM.out.below hbn)
                    replace B1 := Lib.hid (on2 B1.out hbn)
                    clear hbn
                    have t0 := TM.out.cell (i := 0) rfl
                    have t1 := TM.out.cell (i := 1) rfl
                    have t2 := TM.out.cell (i := 2) rfl
                    have t3 := TM.out.cell (i := 3) rfl
                    have t4 := TM.out.cell (i := 4) rfl
                    have t5 := TM.out.cell (i := 5) rfl
                    simp only [List.getElem_toArray, List.getElem_cons_zero, List.getElem_cons_succ] at t0 t1 t2 t3 t4 t5
                    go_wp2_with fail
                    clear t0 t1 t2 t3 t4 t5
                    have hbm := (Below.refl (y4.alloc (.cells #[.int .i64 0] 3)).heap.size (y4.alloc (.cells #[.int .i64 0] 3))).alloc (Nat.le_refl _) (.cells #[.int .i64 2, .int .i64 0, .int .i64 0, .int .i64 0, .int .i64 9007199254740991, .int .i64 9007199254740991] 50)
                    have hsz : (y4.alloc (.cells #[.int .i64 0] 3)).heap.size = y4.heap.size + 1 := by simp
                    have JM := Lib.hid (show IsSpans ((y4.alloc (.cells #[.int .i64 0] 3)).alloc (.cells #[.int .i64 2, .int .i64 0, .int .i64 0, .int .i64 0, .int .i64 9007199254740991, .int .i64 9007199254740991] 50)) (some ⟨y4.heap.size + 1, 0, none⟩) mostS from by
                      have := isSpans_lit (w := y4.alloc (.cells #[.int .i64 0] 3)) (cs := #[.int .i64 2, .int .i64 0, .int .i64 0, .int .i64 0, .int .i64 9007199254740991, .int .i64 9007199254740991]) (t := 50) (l := mostS) rfl
                      rwa [hsz] at this)
                    have NM := Lib.hid (N5.out.below hbm)
                    have HBM := Lib.hid hbm
                    clear hsz hbm
                    refine (lines_any 0 [0] mostS (some ⟨y4.heap.size, 0, none⟩) (some ⟨y4.heap.size + 1, 0, none⟩) 1 1 1 1 _ (by decide) rfl rfl (by kernel_rfl) (by kernel_rfl) (wfS_of _ (by kernel_rfl)) NM.out JM.out).mono ?_
                    rintro e y5 ⟨rfl, hb⟩
                    replace B1 := Lib.hid (on2 (on2 B1.out HBM.out) hb)
                    clear hb HBM N5 TM NM JM
                    go_wp2_with fail
                    refine (lines_any 0 [] [] none none 0 0 0 0 _ (by decide) rfl rfl (by kernel_rfl) (by kernel_rfl) (fun x hx => by cases hx) IsSl.nil (fun h => absurd rfl h)).mono ?_
                    rintro e y6 ⟨rfl, hb⟩
                    replace B1 := Lib.hid (on2 B1.out hb)
                    clear hb
                    go_wp2_with fail
                    refine (lines_any 0 [] pendS none _ 0 2 0 _ _ (by decide) rfl rfl (by kernel_rfl) (by kernel_rfl) W3.out IsSl.nil (I3.out.below B1.out)).mono ?_
                    rintro e y7 ⟨rfl, hb⟩
                    replace B1 := Lib.hid (on2 B1.out hb)
                    clear hb
                    go_wp2_with fail
                    go_ret
                    exact ⟨rfl, on2 HB.out B1.out⟩
end Go.Proofs.Ythmkmjoeceghiaa
