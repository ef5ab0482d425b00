/- A script as it comes in. -/
import Derived.Test.YtdjhkiahpidldaaF
import Derived.Test.YtdjhkiahpidldaaO
namespace Go.Proofs.Ytdjhkiahpidldaa
open Go.ChangeShapes Go.WideShapes Go.ChangeAt Go.RowKit Go.Deep

/-- what the reach bounds of a script -/
structure Sz (s : Scr) : Prop where
  p : s.picks.length * 8 ≤ 140737488355328
  c : s.calls.length * 24 ≤ 140737488355328
  l : ∀ l ∈ s.calls, l.length * 32 ≤ 140737488355328
section
variable {H : Type} {enc : TypeId × Value → H} {w : World} {base : Nat} {spare : Nat → Bool} {held : Bool}
set_option maxRecDepth 100000 in
theorem trod_call {n : Nat} {cs : List Value} {x : DataW H × List MemPlace} (h : DataW.trod enc Try.prog w base spare held n 44 cs = some x) : ∃ c : Cl, cs = clCells c := by
  have hc3 : Try.prog.cellsOf 3 = 1 := by kernel_rfl
  have hc44 : Try.prog.cellsOf 44 = 4 := by kernel_rfl
  obtain ⟨xs, m, _, _, hl, hxl, hg⟩ := DataW.trod_struct Try.underlying44 h
  rw [hc44] at hl
  match cs, hl with
  | [c0, c1, c2, c3], _ =>
    have g0 : DataW.trod enc Try.prog w base spare held m 3 (([c0, c1, c2, c3].drop 0).take (Try.prog.cellsOf 3)) = xs[0]? := hg 0 _ rfl
    have g1 : DataW.trod enc Try.prog w base spare held m 3 (([c0, c1, c2, c3].drop 1).take (Try.prog.cellsOf 3)) = xs[1]? := hg 1 _ rfl
    have g2 : DataW.trod enc Try.prog w base spare held m 3 (([c0, c1, c2, c3].drop 2).take (Try.prog.cellsOf 3)) = xs[2]? := hg 2 _ rfl
    have g3 : DataW.trod enc Try.prog w base spare held m 3 (([c0, c1, c2, c3].drop 3).take (Try.prog.cellsOf 3)) = xs[3]? := hg 3 _ rfl
    rw [hc3] at g0 g1 g2 g3
    rw [List.getElem?_eq_getElem (by rw [hxl]; decide)] at g0 g1 g2 g3
    obtain ⟨n0, e0, _, w0⟩ := DataW.trod_int Try.underlying3 g0
    obtain ⟨n1, e1, _, w1⟩ := DataW.trod_int Try.underlying3 g1
    obtain ⟨n2, e2, _, w2⟩ := DataW.trod_int Try.underlying3 g2
    obtain ⟨n3, e3, _, w3⟩ := DataW.trod_int Try.underlying3 g3
    simp at e0 e1 e2 e3
    subst e0 e1 e2 e3
    exact ⟨(n0, n1, n2, n3), rfl⟩
/-- a list of calls -/
theorem trod_list {n : Nat} {v : Value} {x : DataW H × List MemPlace} (h : DataW.trod enc Try.prog w base spare held n 42 [v] = some x) :
    ∃ a l cap, v = .slice a l.length cap ∧ IsCalls w a l ∧ l.length ≤ 9223372036854775807 ∧ ((∀ m ∈ x.1.weights Try.prog 42, m ≤ reachBytes) → l.length * 32 ≤ 140737488355328) := by
  have hc44 : Try.prog.cellsOf 44 = 4 := by kernel_rfl
  have hb44 : Try.prog.bytesOf 44 = 32 := by kernel_rfl
  rcases open_slice Try.underlying42 h with ⟨hcs, _⟩ | ⟨x0, len, cap, m, n', D, Pl, hcs, _, hl, hm, hmm, hx, hi⟩
  · obtain rfl : v = .slice none 0 0 := by simpa using hcs
    exact ⟨none, [], 0, rfl, fun h => absurd rfl h, by simp, fun _ => by simp⟩
  · obtain rfl : v = .slice (some x0) len cap := by simpa using hcs
    rw [hc44] at hi
    have hlm : len ≤ m := by rw [hmm]; split <;> omega
    have each : ∀ i, i < m → ∃ e : Cl, ∀ j, j < 4 → w.cell? (x0.add (i * 4 + j)) = (clCells e)[j]? := fun i him => by
      obtain ⟨cs', hc, ht⟩ := hi i him
      obtain ⟨e, rfl⟩ := trod_call ht
      obtain ⟨_, _, hat⟩ := World.cells?_some hc
      exact ⟨e, fun j hj => by rw [← Go.Deep.add_add]; exact hat j hj⟩
    let F : Nat → Cl := fun i => if h : i < m then (each i h).choose else (0, 0, 0, 0)
    have hF : ∀ i, i < m → ∀ j, j < 4 → w.cell? (x0.add (i * 4 + j)) = (clCells (F i))[j]? := fun i hlt => by
      have := (each i hlt).choose_spec
      simp only [F, dif_pos hlt]; exact this
    have hmx : len ≤ 9223372036854775807 := by unfold maxLen at hm; omega
    refine ⟨some x0, (List.range len).map F, cap, by simp, fun hne => ?_, by simpa using hmx, fun hw => ?_⟩
    · have h0 : 0 < len := by
        rcases Nat.eq_zero_or_pos len with h | h
        · subst h; simp at hne
        · exact h
      have hspot : x0.spot = none := by
        have := hF 0 (by omega) 0 (by omega)
        have := World.cell?_spot (show w.cell? (x0.add (0 * 4 + 0)) = some (.int .i64 (F 0).1) from this)
        simpa [Addr.add] using this
      refine ⟨x0.block, x0.off, by obtain ⟨b, o, s⟩ := x0; simp only at hspot; subst hspot; rfl, fun k c hk => ?_⟩
      have hkl : k < len := by
        have := (List.getElem?_eq_some_iff.1 hk).1
        simpa using this
      rw [List.getElem?_map, List.getElem?_range hkl] at hk
      obtain rfl : F k = c := by simpa using hk
      have hat := hF k (by omega)
      have at_ : ∀ j v, j < 4 → (clCells (F k))[j]? = some v → w.cell? ⟨x0.block, x0.off + k * 4 + j, none⟩ = some v := fun j v hj hv => by
        rw [Nat.add_assoc, ← addr_add hspot, hat j hj, hv]
      exact ⟨at_ 0 _ (by omega) rfl, at_ 1 _ (by omega) rfl, at_ 2 _ (by omega) rfl, at_ 3 _ (by omega) rfl⟩
    · have hr := reachBytes_lt
      have := hw (m * 32) (by rw [hx]; simp [DataW.weights, Try.underlying42, hb44]; left; omega)
      simp only [List.length_map, List.length_range]
      omega
/-- the lists -/
theorem trod_lists {n : Nat} {v : Value} {x : DataW H × List MemPlace} (h : DataW.trod enc Try.prog w base spare held n 24 [v] = some x) :
    ∃ a calls cap, v = .slice a calls.length cap ∧ (calls ≠ [] → ∃ g off, a = some ⟨g, off, none⟩ ∧ ∀ (i : Nat) (l : List Cl), calls[i]? = some l → IsList w ⟨g, off + i, none⟩ l) ∧ calls.length ≤ 9223372036854775807 ∧ (∀ l ∈ calls, l.length ≤ 9223372036854775807) ∧
      ((∀ m ∈ x.1.weights Try.prog 24, m ≤ reachBytes) → calls.length * 24 ≤ 140737488355328 ∧ ∀ l ∈ calls, l.length * 32 ≤ 140737488355328) := by
  have hc42 : Try.prog.cellsOf 42 = 1 := by kernel_rfl
  have hb42 : Try.prog.bytesOf 42 = 24 := by kernel_rfl
  rcases open_slice1 Try.underlying24 hc42 h with ⟨hcs, _⟩ | ⟨x0, len, cap, m, n', V, D, Pl, hcs, _, hl, hm, hmm, hx, hi⟩
  · obtain rfl : v = .slice none 0 0 := by simpa using hcs
    exact ⟨none, [], 0, rfl, fun h => absurd rfl h, by simp, by simp, fun _ => by simp⟩
  · obtain rfl : v = .slice (some x0) len cap := by simpa using hcs
    have hlm : len ≤ m := by rw [hmm]; split <;> omega
    have each : ∀ i, i < m → ∃ l : List Cl, IsList w (x0.add i) l ∧ l.length ≤ 9223372036854775807 ∧ ((∀ m ∈ (D i).weights Try.prog 42, m ≤ reachBytes) → l.length * 32 ≤ 140737488355328) := fun i him => by
      obtain ⟨h1, h2⟩ := hi i him
      obtain ⟨a, l, cp, hv, hI, hle, hw⟩ := trod_list h2
      exact ⟨l, ⟨a, cp, by rw [h1, hv], hI⟩, hle, hw⟩
    let F : Nat → List Cl := fun i => if h : i < m then (each i h).choose else []
    have hF : ∀ i, i < m → IsList w (x0.add i) (F i) ∧ (F i).length ≤ 9223372036854775807 ∧ ((∀ m ∈ (D i).weights Try.prog 42, m ≤ reachBytes) → (F i).length * 32 ≤ 140737488355328) := fun i hlt => by
      have := (each i hlt).choose_spec
      simp only [F, dif_pos hlt]; exact this
    have hmx : len ≤ 9223372036854775807 := by unfold maxLen at hm; omega
    have hmem : ∀ l, l ∈ (List.range len).map F → ∃ i, i < len ∧ F i = l := fun l hl => by
      simpa using hl
    refine ⟨some x0, (List.range len).map F, cap, by simp, fun hne => ?_, by simpa using hmx, fun l hl => ?_, fun hw => ⟨?_, fun l hl => ?_⟩⟩
    · have h0 : 0 < len := by
        rcases Nat.eq_zero_or_pos len with h | h
        · subst h; simp at hne
        · exact h
      have hspot : x0.spot = none := by
        obtain ⟨a, cp, h1, _⟩ := (hF 0 (by omega)).1
        have := World.cell?_spot h1
        simpa [Addr.add] using this
      refine ⟨x0.block, x0.off, by obtain ⟨b, o, s⟩ := x0; simp only at hspot; subst hspot; rfl, fun k c hk => ?_⟩
      have hkl : k < len := by
        have := (List.getElem?_eq_some_iff.1 hk).1
        simpa using this
      rw [List.getElem?_map, List.getElem?_range hkl] at hk
      obtain rfl : F k = c := by simpa using hk
      have := (hF k (by omega)).1
      rwa [addr_add hspot] at this
    · obtain ⟨i, hi', rfl⟩ := hmem l hl
      exact (hF i (by omega)).2.1
    · have hr := reachBytes_lt
      have := hw (m * 24) (by rw [hx]; simp [DataW.weights, Try.underlying24, hb42]; left; omega)
      simp only [List.length_map, List.length_range]
      omega
    · obtain ⟨i, hi', rfl⟩ := hmem l hl
      refine (hF i (by omega)).2.2 fun q hq => hw q ?_
      rw [hx]
      have hall : ∀ (L : List (DataW H)) (d : DataW H), d ∈ L → ∀ q ∈ d.weights Try.prog 42, q ∈ DataW.weightsAll Try.prog 42 L := fun L => by
        induction L with
        | nil => intro d hd; cases hd
        | cons y L ih =>
          intro d hd q hq
          rw [DataW.weightsAll, List.mem_append]
          rcases List.mem_cons.1 hd with rfl | hd
          · exact .inl hq
          · exact .inr (ih d hd q hq)
      have := hall ((List.range len).map D) (D i) (List.mem_map.2 ⟨i, List.mem_range.2 hi', rfl⟩) q hq
      simp [DataW.weights, Try.underlying24]
      exact .inr (.inl this)
set_option maxRecDepth 100000 in
/-- a script that came in -/
theorem open_script_arg {r : Reach} {b0 : Nat} {v : Value} {d : DataW H} {p : List MemPlace} (hv : Value.okWide Try.prog w r b0 27 v) (h : DataW.Trod enc Try.prog w base spare held 27 v d p) :
    ∃ s, ScrAt w v s ∧ ((∀ m ∈ d.weights Try.prog 27, m ≤ reachBytes) → Sz s) := by
  have hc3 : Try.prog.cellsOf 3 = 1 := by kernel_rfl
  have hc24 : Try.prog.cellsOf 24 = 1 := by kernel_rfl
  have hc25 : Try.prog.cellsOf 25 = 1 := by kernel_rfl
  have hc27 : Try.prog.cellsOf 27 = 4 := by kernel_rfl
  have hb3 : Try.prog.bytesOf 3 = 8 := by kernel_rfl
  obtain ⟨cs, rfl, hcs⟩ := okWide_struct Try.underlying27 hv
  rw [hc27] at hcs
  obtain ⟨l⟩ := cs
  match l, hcs with
  | [c0, c1, c2, c3], _ =>
    obtain ⟨fuel, hf⟩ := h
    obtain ⟨xs, m, _, hx, hl, hxl, hg⟩ := DataW.trod_struct Try.underlying27 hf
    have g0 : DataW.trod enc Try.prog w base spare held m 3 (([c0, c1, c2, c3].drop 0).take (Try.prog.cellsOf 3)) = xs[0]? := hg 0 _ rfl
    have g1 : DataW.trod enc Try.prog w base spare held m 3 (([c0, c1, c2, c3].drop 1).take (Try.prog.cellsOf 3)) = xs[1]? := hg 1 _ rfl
    have g2 : DataW.trod enc Try.prog w base spare held m 24 (([c0, c1, c2, c3].drop 2).take (Try.prog.cellsOf 24)) = xs[2]? := hg 2 _ rfl
    have g3 : DataW.trod enc Try.prog w base spare held m 25 (([c0, c1, c2, c3].drop 3).take (Try.prog.cellsOf 25)) = xs[3]? := hg 3 _ rfl
    rw [hc3] at g0 g1
    rw [hc24] at g2
    rw [hc25] at g3
    have hxs : xs.length = 4 := hxl
    match xs, hxs with
    | [x0, x1, x2, x3], _ =>
      simp only [List.drop_zero, List.drop_succ_cons, List.take_succ_cons, List.take_zero, List.getElem?_cons_zero, List.getElem?_cons_succ] at g0 g1 g2 g3
      obtain ⟨n0, e0, _, w0⟩ := DataW.trod_int Try.underlying3 g0
      obtain ⟨n1, e1, _, w1⟩ := DataW.trod_int Try.underlying3 g1
      obtain ⟨a, calls, cap, e2, h2, h3, h4, h5⟩ := trod_lists g2
      simp at e0 e1
      subst e0 e1 e2
      have hd : d = .agg [x0.1, x1.1, x2.1, x3.1] := (Prod.mk.inj hx).1
      have hw : ∀ q, q ∈ x2.1.weights Try.prog 24 ∨ q ∈ x3.1.weights Try.prog 25 → q ∈ d.weights Try.prog 27 := fun q hq => by
        subst hd
        simp only [DataW.weights, Try.underlying27]
        rcases hq with hq | hq
        · exact List.mem_append_right _ (List.mem_append_right _ (List.mem_append_left _ hq))
        · exact List.mem_append_right _ (List.mem_append_right _ (List.mem_append_right _ (List.mem_append_left _ hq)))
      rcases open_ints Try.underlying25 Try.underlying3 hc3 g3 with ⟨hc, _⟩ | ⟨x, len, cp, zs, hc, _, hl', hm, hz, hx3, hcell, hwz⟩
      · obtain rfl : c3 = .slice none 0 0 := by simpa using hc
        refine ⟨⟨n0, n1, calls, []⟩, ⟨⟨a, cap, none, 0, rfl, h2, IsSl.nil⟩, h3, h4⟩, fun hwt => ?_⟩
        have h6 := h5 fun q hq => hwt q (hw q (.inl hq))
        exact ⟨by simp, h6.1, h6.2⟩
      · obtain rfl : c3 = .slice (some x) len cp := by simpa using hc
        have hlz : len ≤ zs.length := by rw [hz]; split <;> omega
        have hll : (zs.take len).length = len := by rw [List.length_take]; omega
        have hmx : len ≤ 9223372036854775807 := by unfold maxLen at hm; omega
        refine ⟨⟨n0, n1, calls, zs.take len⟩, ⟨⟨a, cap, some x, cp, by simp only [hll], h2, isSl_of_cells (by show (zs.take len).length ≤ _; omega) fun i v hv => ?_⟩, h3, h4⟩, fun hwt => ?_⟩
        · rw [List.getElem?_take] at hv
          split at hv
          · have hi := (List.getElem?_eq_some_iff.1 hv).1
            have := hcell i hi
            rw [List.getD_eq_getElem?_getD, hv] at this
            exact this
          · cases hv
        · have h6 := h5 fun q hq => hwt q (hw q (.inl hq))
          have h7 := hwt (zs.length * 8) (hw _ (.inr (by rw [hx3]; simp only [DataW.weights, Try.underlying25, hb3, lits, List.length_map, List.length_take, List.length_drop]; exact List.mem_cons.2 (.inl (by congr 1; omega)))))
          have hr := reachBytes_lt
          exact ⟨by simp only [hll]; omega, h6.1, h6.2⟩
end
end Go.Proofs.Ytdjhkiahpidldaa
