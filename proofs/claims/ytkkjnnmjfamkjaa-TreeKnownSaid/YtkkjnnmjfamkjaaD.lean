/- Path, Heir, Below: the ranges over the iterator. -/
import Derived.Test.YtkkjnnmjfamkjaaC
namespace Go.Proofs.Ytkkjnnmjfamkjaa
open Go.RowKit Go.Shelf

attribute [local go_sem ↓] Go.wp_at_zero Go.wp_at_succ
attribute [local go_sem] Oper.semAt_some
theorem info3 : (Try.prog.info? 3).map (fun i => (i.zero, i.size, i.bytes)) = some (some (.int .i64 0), 1, 8) := by kernel_rfl
theorem path_len {T : List Gp} (h : WfT T) (g : Int) : (path T g).length ≤ 8 := by
  cases hg : gAt T g with
  | none => rw [WfT.path_none hg]; simp
  | some x => have := h.depth g.toNat g x (by omega) hg; have := h.parent hg; omega
theorem OwnG.and {β : Type} {G B : Nat} {I J : β → World → Prop} (h : OwnG G B I) (k : OwnG G B J) : OwnG G B (fun s W => I s W ∧ J s W) := fun s W W' row hs hg hr => ⟨h s W W' row hs.1 hg hr, k s W W' row hs.2 hg hr⟩
theorem OwnG.pure {β : Type} {G B : Nat} (p : β → Prop) : OwnG G B (fun s (_ : World) => p s) := fun _ _ _ _ hs _ _ => hs
theorem boxG {β : Type} {G B Bx : Nat} {t : TypeId} (f : β → Value) (hne : Bx ≠ G) : OwnG G B (fun s W => Boxed W Bx t (f s)) := fun s W W' row hs hg hr => by
  refine Boxed.kept hs hg fun e => ?_
  rcases hr Bx e.symm with h | ⟨_, o, ho, hc⟩
  · exact hne h
  · rw [show W.heap[Bx]? = _ from hs] at ho; cases ho; cases hc
theorem belowG {β : Type} {G B m : Nat} {w : World} (hm : m ≤ G) (hB : m ≤ B) (hw : m ≤ w.heap.size) : OwnG (β := β) G B (fun _ W => Below m w W) := fun s W W' row hs hg hr =>
  hs.grown hg (Nat.le_trans hw hs.size) fun k e => by rcases hr k e with h | ⟨h, _⟩ <;> omega
theorem rowG {β : Type} {G B Bx n0 size : Nat} {t e : TypeId} (k : β → Nat) (f : β → List Value) (hne : Bx ≠ G) (hn : G < n0) : OwnG G B (fun s W => ∃ v, Boxed W Bx t v ∧ W.ownsRow n0 e size v (k s) (f s)) := fun s W W' row hs hg hr => by
  obtain ⟨v, hv, hw⟩ := hs
  refine ⟨v, boxG (fun _ : β => v) hne s W W' row hv hg hr, hw.kept hg ?_⟩
  rcases hw.2 with ⟨rfl, _⟩ | ⟨g, cap, cur, rfl, hb, hgb, _⟩
  · exact .inl rfl
  · refine .inr fun e' => ?_
    rcases hr g (by simpa [Value.ownBlock] using e'.symm) with h | ⟨_, o, ho, hc⟩
    · omega
    · rw [hgb] at ho; cases ho; cases hc
set_option maxRecDepth 100000 in
set_option maxHeartbeats 1000000 in
theorem append_in (F : Fence) (n : Nat) (h25 : F.fn 25) (h26 : F.fn 26) (h38 : F.fn 38) (h39 : F.fn 39) (hro : F.round = none) (hn : 4 ≤ n) (m base n0 B q cap Tb Gb : Nat) (T : List Gp) (hT : WfT T) (g : Int) (w : World)
    (hU : UpAt base n0 B q cap Tb Gb T g w) (hn0 : n0 ≤ w.heap.size) (hm : m ≤ Gb) :
    CallsIn F n Try.prog 38 #[.slice none 0 0, .func (.func 39) #[] #[.pointer (some ⟨Tb, 0, none⟩), .pointer (some ⟨Gb, 0, none⟩)]] w fun e W' => ∃ v, e = .returned v ∧ W'.ownsRow w.heap.size 3 1 v (path T g).length ((path T g).map encI) ∧ Below m w W' := by
  have h1 : 1 ≤ n := by omega
  have hpl := path_len hT g
  have hGn := hU.nG
  obtain ⟨i0, hi, hz0, hz1, hz2⟩ := info_parts info3
  refine callsIn_of_wp_marks Try.func38 rfl h38 ?_ hro
  simp only [Try.ntmps38, List.size_toArray, List.length_cons, List.length_nil, Nat.reduceAdd, Nat.reduceSub, Array.replicate_succ, Array.replicate_zero, List.push_toArray, List.append_toArray, List.nil_append, List.cons_append]
  gi_wp2
  have bO := Boxed.new w 39 (.slice none 0 0)
  have hB0 : Below w.heap.size w (w.alloc (.cells #[.slice none 0 0] 39)) := (Below.refl _ w).alloc (Nat.le_refl _) _
  refine rangeG hro h1 (gf := 39) (lb := #[.pointer (some ⟨Tb, 0, none⟩), .pointer (some ⟨Gb, 0, none⟩)]) rfl h39 (enters_of Try.func39 (by kernel_rfl) rfl) (G := Gb) (by simp; omega)
    (up_seq F (n - 1) h25 h26 h39 hro (by omega) base n0 B q cap Tb Gb T hT g _ (hU.keep (hB0.mono hn0)) (by simp; omega)) belowK_t (belowK_b (by simp; omega)) (Below.refl _ _) (fun _ => rfl)
    (fun pre W => (∃ v, Boxed W w.heap.size 39 v ∧ W.ownsRow w.heap.size 3 1 v pre.length (pre.map encI)) ∧ Below m w W)
    (fun _ _ _ => False)
    ((rowG _ _ (by omega) (by omega)).and (belowG hm (by simp; omega) (by omega)))
    (fun _ _ _ _ _ hs _ _ => hs)
    ⟨⟨_, bO, World.ownsRow_nil _ _ _ _⟩, hB0.mono (by omega)⟩
    (fun x => { tmps := #[.slice none 0 0, .func (.func 39) #[] #[.pointer (some ⟨Tb, 0, none⟩), .pointer (some ⟨Gb, 0, none⟩)], .pointer (some ⟨w.heap.size, 0, none⟩), undef, .slice none 0 0, encI x, .func (.func 39) #[] #[.pointer (some ⟨Tb, 0, none⟩), .pointer (some ⟨Gb, 0, none⟩)], encI x, undef, undef, undef, undef, undef], defers := [] }) ?assign ?body ?done ?stop
  case assign =>
    intro l x W K hK
    gi_wp2
    exact hK
  case body =>
    rintro l pre x W ⟨⟨v, hv, hrow⟩, hB⟩ hlt
    have hc := hv.cell
    have hsz := hv.lt
    gi_wp2_with (gi_at_builtin; refine wpListIn_append_own _ rfl _ _ 39 rfl w.heap.size 3 i0 (.int .i64 0) 1 8 Try.underlying39 hi hz0 hz1 hz2 rfl (by decide) _ _ _ rfl (hrow.alloc _) ⟨W.heap.size, 0, none⟩ 1 1 [encI x] rfl rfl (cell_one_new _ _ _) (by simp [Value.oneCell', encI]) (by unfold maxLen; omega) (by omega) (by simp; omega) ?_; intro v' w1 hown' hgrow _; obtain ⟨g', cap', rfl⟩ := ownsRow_succ hown'; obtain ⟨hv1, hv2, hr2, hk2, hb2⟩ := hv.appended (by decide) hrow (Nat.le_of_lt hsz) (Nat.le_refl _) hown' hgrow; have hc1 := hv1.cell; have hf1 := hv1.frozen)
    exact ⟨hk2.from _, hb2.mono hn0, ⟨_, hv2, by simpa using hr2⟩, hB.trans (hb2.mono (by omega))⟩
  case done =>
    rintro D ys W hD rfl ⟨⟨v, hv, hrow⟩, hB⟩ hK
    have hc := hv.cell
    gi_wp2
    refine ⟨by simp, .inl ⟨_, _, rfl, run_takeDeferred hK, ?_⟩⟩
    exact ⟨_, results_tmp rfl _ _ _, v, rfl, ownsRow_putObj hrow _ hK rfl, hB.trans (belowK_b (w := w) (by omega) W D _ _ (by simp at hD; omega) hK rfl rfl)⟩
  case stop =>
    rintro D c pre W _ _ h _
    exact h.elim
/-- up's two cells behind the tree -/
theorem upAt_new {w : World} {base B q cap : Nat} {T : List Gp} (h : TrAt w base B q cap T) (hB : B < w.heap.size) (hq : q < w.heap.size) (g : Int) :
    UpAt base (w.heap.size + 2) B q cap w.heap.size (w.heap.size + 1) T g ((w.alloc (.cells #[.pointer (some ⟨B, 0, none⟩)] 23)).alloc (.cells #[.int .i64 g] 3)) := by
  have hb : Below w.heap.size w ((w.alloc (.cells #[.pointer (some ⟨B, 0, none⟩)] 23)).alloc (.cells #[.int .i64 g] 3)) := (by repeat (first | exact Below.refl _ _ | assumption | refine Below.setCell ?_ (by first | omega | (simp; done) | (simp; omega)) _ | refine Below.drew ?_ | refine Below.alloc ?_ (by first | omega | (simp; done) | (simp; omega)) _ | refine Below.trans ?_ (Below.mono (by assumption) (by first | omega | (simp; done) | (simp; omega)))))
  refine ⟨h.keep hb hB hq, (Blk.new w _ _).alloc _, ?_, by omega, by omega, by omega, by omega, by omega, by omega, by omega⟩
  have := Blk.new (w.alloc (.cells #[.pointer (some ⟨B, 0, none⟩)] 23)) #[.int .i64 g] 3
  rwa [World.size_alloc] at this
set_option maxRecDepth 100000 in
set_option maxHeartbeats 400000 in
theorem collect_any (m base n0 B q cap Tb Gb : Nat) (T : List Gp) (hT : WfT T) (g : Int) (w : World)
    (hU : UpAt base n0 B q cap Tb Gb T g w) (hn0 : n0 ≤ w.heap.size) (hm : m ≤ Gb) :
    Calls Try.prog 36 #[.func (.func 39) #[] #[.pointer (some ⟨Tb, 0, none⟩), .pointer (some ⟨Gb, 0, none⟩)]] w fun e W' => ∃ v, e = .returned v ∧ W'.ownsRow w.heap.size 3 1 v (path T g).length ((path T g).map encI) ∧ Below m w W' := by
  have happ := callsIn_wide.1 (append_in Fence.wide 10 trivial trivial trivial trivial rfl (by omega) m base n0 B q cap Tb Gb T hT g w hU hn0 hm)
  clear hU
  go_enter Try.func36, Try.ntmps36
  go_wp2_with fail
  refine happ.mono ?_
  rintro e w1 ⟨v, rfl, hv⟩
  clear happ
  go_wp2_with fail
  go_ret
  exact ⟨v, rfl, hv⟩
set_option maxRecDepth 100000 in
set_option maxHeartbeats 400000 in
theorem path_any (w : World) (base B q cap : Nat) (T : List Gp) (g : Int) (h : TrAt w base B q cap T) (hT : WfT T) :
    Calls Try.prog 19 #[.pointer (some ⟨B, 0, none⟩), .int .i64 g] w fun e W' => ∃ v, e = .returned v ∧ W'.ownsRow w.heap.size 3 1 v (path T g).length ((path T g).map encI) ∧ Below w.heap.size w W' := by
  have hup := callsIn_wide.1 (up_in Fence.wide 10 trivial rfl B g w)
  have hU := upAt_new h h.blk.lt (h.own.lt q rfl).2 g
  have hcol := collect_any w.heap.size _ _ B q cap _ _ T hT g _ hU (by simp) (by omega)
  have hb : Below w.heap.size w ((w.alloc (.cells #[.pointer (some ⟨B, 0, none⟩)] 23)).alloc (.cells #[.int .i64 g] 3)) := (by repeat (first | exact Below.refl _ _ | assumption | refine Below.setCell ?_ (by first | omega | (simp; done) | (simp; omega)) _ | refine Below.drew ?_ | refine Below.alloc ?_ (by first | omega | (simp; done) | (simp; omega)) _ | refine Below.trans ?_ (Below.mono (by assumption) (by first | omega | (simp; done) | (simp; omega)))))
  clear hU h
  go_enter Try.func19, Try.ntmps19
  go_wp2_with fail
  refine hup.mono ?_
  rintro e w1 ⟨rfl, rfl⟩
  clear hup
  go_wp2_with fail
  refine hcol.mono ?_
  rintro e w1 ⟨v, rfl, hv, hb1⟩
  clear hcol
  have HV := Lib.hid (owns_mono hv (base' := w.heap.size) (by simp; omega))
  have HB := Lib.hid (hb.trans hb1)
  clear hv hb hb1
  go_wp2_with fail
  go_ret
  exact ⟨v, rfl, HV.out, HB.out⟩
/-- Heir and Below, in plain words -/
def heirT (T : List Gp) (g : Int) : Int := ((path T g).find? (onT T)).getD 0
def belowT (T : List Gp) (g top : Int) : Bool := (path T g).any (· == top)
theorem heir_hit {T : List Gp} {g x : Int} {pre : List Int} (hp : pre ++ [x] <+: path T g) (ho : ∀ z ∈ pre, onT T z = false) (hx : onT T x = true) : heirT T g = x := by
  obtain ⟨r, hr⟩ := hp
  unfold heirT
  rw [← hr, List.append_assoc, List.find?_append, List.find?_eq_none.2 (fun z hz => by simp [ho z hz])]
  simp [hx]
/-- the way out of Heir's loop -/
def HeirEnd (T : List Gp) (pre : List Int) : Prop := ∃ pre' y, pre = pre' ++ [y] ∧ (∀ z ∈ pre', onT T z = false) ∧ onT T y = true
theorem HeirEnd.heir {T : List Gp} {pre : List Int} {g : Int} (h : HeirEnd T pre) (hp : pre <+: path T g) : heirT T g = pre.getLastD 0 := by
  obtain ⟨pre', y, rfl, h1, h2⟩ := h
  rw [heir_hit hp h1 h2]; simp
theorem heir_none {T : List Gp} {g : Int} (ho : ∀ z ∈ path T g, onT T z = false) : heirT T g = 0 := by
  unfold heirT
  rw [List.find?_eq_none.2 (fun z hz => by simp [ho z hz])]; rfl
theorem below_hit {T : List Gp} {g top : Int} {pre : List Int} (hp : pre <+: path T g) (hx : top ∈ pre) : belowT T g top = true := by
  unfold belowT; rw [List.any_eq_true]; exact ⟨top, hp.subset hx, by simp⟩
theorem below_none {T : List Gp} {g top : Int} (ho : ∀ z ∈ path T g, z ≠ top) : belowT T g top = false := by
  unfold belowT; rw [List.any_eq_false]; intro z hz; simpa using ho z hz
set_option maxRecDepth 100000 in
set_option maxHeartbeats 1000000 in
theorem heir_in (F : Fence) (n : Nat) (h23 : F.fn 23) (h24 : F.fn 24) (h25 : F.fn 25) (h26 : F.fn 26) (h37 : F.fn 37) (h39 : F.fn 39) (hro : F.round = none) (hn : 6 ≤ n) (w : World) (base B q cap : Nat) (T : List Gp) (g : Int) (h : TrAt w base B q cap T) (hT : WfT T) :
    CallsIn F n Try.prog 23 #[.pointer (some ⟨B, 0, none⟩), .int .i64 g] w fun e W' => e = .returned (.int .i64 (heirT T g)) ∧ Below w.heap.size w W' := by
  have h1 : 1 ≤ n := by omega
  have hne : T ≠ [] := by intro e; have := hT.root; rw [e] at this; simp at this
  have hBl := h.blk.lt
  have hql := (h.own.lt q rfl).2
  have hup := up_in F (n - 1) h37 hro B g ((w.alloc (.cells #[.pointer (some ⟨B, 0, none⟩)] 23)).alloc (.cells #[.int .i64 0] 3))
  have hb0 : Below w.heap.size w ((w.alloc (.cells #[.pointer (some ⟨B, 0, none⟩)] 23)).alloc (.cells #[.int .i64 0] 3)) := (by repeat (first | exact Below.refl _ _ | assumption | refine Below.setCell ?_ (by first | omega | (simp; done) | (simp; omega)) _ | refine Below.drew ?_ | refine Below.alloc ?_ (by first | omega | (simp; done) | (simp; omega)) _ | refine Below.trans ?_ (Below.mono (by assumption) (by first | omega | (simp; done) | (simp; omega)))))
  have hU := upAt_new (h.keep hb0 hBl hql) (by simp; omega) (by simp; omega) g
  have H := Lib.hid h
  clear h
  refine callsIn_of_wp_marks Try.func23 rfl h23 ?_ hro
  simp only [Try.ntmps23, List.size_toArray, List.length_cons, List.length_nil, Nat.reduceAdd, Nat.reduceSub, Array.replicate_succ, Array.replicate_zero, List.push_toArray, List.append_toArray, List.nil_append, List.cons_append]
  gi_wp2
  refine hup.mono ?_
  rintro e w1 ⟨rfl, rfl⟩
  clear hup
  gi_wp2
  obtain ⟨W0, hW0⟩ : ∃ W0, (((w.alloc (.cells #[.pointer (some ⟨B, 0, none⟩)] 23)).alloc (.cells #[.int .i64 0] 3)).alloc (.cells #[.pointer (some ⟨B, 0, none⟩)] 23)).alloc (.cells #[.int .i64 g] 3) = W0 := ⟨_, rfl⟩
  have hs0 : W0.heap.size = w.heap.size + 4 := by rw [← hW0]; simp
  have hBW : Below w.heap.size w W0 := by rw [← hW0]; exact (by repeat (first | exact Below.refl _ _ | assumption | refine Below.setCell ?_ (by first | omega | (simp; done) | (simp; omega)) _ | refine Below.drew ?_ | refine Below.alloc ?_ (by first | omega | (simp; done) | (simp; omega)) _ | refine Below.trans ?_ (Below.mono (by assumption) (by first | omega | (simp; done) | (simp; omega)))))
  have x1 : Boxed W0 w.heap.size 23 (.pointer (some ⟨B, 0, none⟩)) := by rw [← hW0]; exact (((Boxed.new w _ _).alloc _).alloc _).alloc _
  have x2 : Boxed W0 (w.heap.size + 1) 3 (.int .i64 0) := by
    rw [← hW0]
    have := Boxed.new (w.alloc (.cells #[.pointer (some ⟨B, 0, none⟩)] 23)) 3 (.int .i64 0)
    rw [World.size_alloc] at this
    exact (this.alloc _).alloc _
  simp only [World.size_alloc] at hU
  rw [hW0] at hU ⊢
  refine rangeG hro h1 (gf := 39) (lb := #[.pointer (some ⟨w.heap.size + 2, 0, none⟩), .pointer (some ⟨w.heap.size + 3, 0, none⟩)]) rfl h39 (enters_of Try.func39 (by kernel_rfl) rfl) (G := w.heap.size + 3) (by omega)
    (up_seq F (n - 1) h25 h26 h39 hro (by omega) base (w.heap.size + 4) B q cap _ _ T hT g W0 hU (by omega)) belowK_t (belowK_b (by omega)) (Below.refl _ _) (fun _ => rfl)
    (fun pre W => ((∀ z ∈ pre, onT T z = false) ∧ Boxed W w.heap.size 23 (.pointer (some ⟨B, 0, none⟩)) ∧ Boxed W (w.heap.size + 1) 3 (.int .i64 0)) ∧ Below w.heap.size w W)
    (fun c pre W => (c = .ret ∧ HeirEnd T pre ∧ Boxed W (w.heap.size + 1) 3 (.int .i64 (pre.getLastD 0))) ∧ Below w.heap.size w W)
    (((OwnG.pure _).and ((boxG (fun _ => _) (by omega)).and (boxG (fun _ => _) (by omega)))).and (belowG (by omega) (by omega) (by omega)))
    (fun c => ((OwnG.pure _).and ((OwnG.pure _).and (boxG _ (by omega)))).and (belowG (by omega) (by omega) (by omega)))
    ⟨⟨by simp, x1, x2⟩, hBW⟩
    (fun x => { tmps := #[.pointer (some ⟨B, 0, none⟩), .int .i64 g, .pointer (some ⟨w.heap.size, 0, none⟩), undef, .pointer (some ⟨w.heap.size + 1, 0, none⟩), encI x, .pointer (some ⟨B, 0, none⟩), .int .i64 g, .func (.func 39) #[] #[.pointer (some ⟨w.heap.size + 2, 0, none⟩), .pointer (some ⟨w.heap.size + 3, 0, none⟩)], encI x, undef, undef, undef, undef], defers := [] }) ?assign ?body ?done ?stop
  case assign =>
    intro l x W K hK
    gi_wp2
    exact hK
  case body =>
    rintro l pre x W ⟨⟨hno, y1, y2⟩, hB⟩ hlt
    have c1 := y1.cell
    have c2 := y2.cell
    have f2 := y2.frozen
    have hon := CallsIn.inRound l (online_in F (n - 1 - 1 - 1) h24 h25 h26 hro (by omega) W base B q cap T x (H.out.keep hB hBl hql) hne hT.le)
    have h11 : 1 ≤ n - 1 - 1 := by omega
    have HN := Lib.hid hno
    have Y1 := Lib.hid y1
    have Y2 := Lib.hid y2
    have HB := Lib.hid hB
    clear hno y1 y2 hB x1 x2 hU hBW
    cases hx : onT T x with
    | true =>
      have HX := Lib.hid hx
      rw [hx] at hon
      clear hx
      gi_wp2
      refine hon.mono ?_
      rintro e w2 ⟨rfl, rfl⟩
      gi_wp2
      refine ⟨(KeepsOthers.setCell _ _ _).from _, ⟨rfl, ⟨pre, x, rfl, HN.out, HX.out⟩, ?_⟩, HB.out.setCell (p := ⟨w.heap.size + 1, 0, none⟩) (by simp) _⟩
      simpa using Y2.out.set (encI x)
    | false =>
      have HX := Lib.hid hx
      rw [hx] at hon
      clear hx
      gi_wp2
      refine hon.mono ?_
      rintro e w2 ⟨rfl, rfl⟩
      gi_wp2
      exact ⟨KeepsFrom.refl _ _, Below.refl _ _, ⟨fun z hz => (List.mem_append.1 hz).elim (HN.out z) (fun e => by simp at e; rw [e]; exact HX.out), Y1.out, Y2.out⟩, HB.out⟩
  case done =>
    rintro D ys W hD rfl ⟨⟨hno, y1, y2⟩, hB⟩ hK
    have c2 := y2.cell
    have f2 := y2.frozen
    gi_wp2
    have hK' := (KeepsOthers.setCell W ⟨w.heap.size + 1, 0, none⟩ (.int .i64 0)).same D _ hK rfl
    refine ⟨by simp, .inl ⟨_, _, rfl, run_takeDeferred hK', ?_⟩⟩
    have hc5 := cell_kept (World.cell?_setCell_same' W ⟨w.heap.size + 1, 0, none⟩ (.int .i64 0) (by rw [c2]; rfl)) (grownBy_putObj' _ D (.deferred none)) (fun r e => by cases e; exact ⟨_, hK', rfl⟩)
    refine ⟨.int .i64 0, by simp [results, Try.f23, go_sem, hc5], by rw [heir_none hno], (hB.setCell (p := ⟨w.heap.size + 1, 0, none⟩) (by simp) _).trans (belowK_b (w := w) (Nat.le_refl _) _ D _ _ (by omega) hK' rfl rfl)⟩
  case stop =>
    rintro D c pre W hD hpre ⟨⟨rfl, hh, y2⟩, hB⟩ hK
    have c2 := y2.cell
    have f2 := y2.frozen
    gi_wp2
    refine ⟨by simp, .inl ⟨_, _, rfl, run_takeDeferred hK, ?_⟩⟩
    have hc5 := cell_kept c2 (grownBy_putObj' _ D (.deferred none)) (fun r e => by cases e; exact ⟨_, hK, rfl⟩)
    refine ⟨.int .i64 (pre.getLastD 0), by simp [results, Try.f23, go_sem, hc5], by rw [hh.heir hpre], hB.trans (belowK_b (w := w) (Nat.le_refl _) W D _ _ (by omega) hK rfl rfl)⟩
set_option maxRecDepth 100000 in
set_option maxHeartbeats 1000000 in
theorem below_in (F : Fence) (n : Nat) (h22 : F.fn 22) (h25 : F.fn 25) (h26 : F.fn 26) (h37 : F.fn 37) (h39 : F.fn 39) (hro : F.round = none) (hn : 6 ≤ n) (w : World) (base B q cap : Nat) (T : List Gp) (g top : Int) (h : TrAt w base B q cap T) (hT : WfT T) :
    CallsIn F n Try.prog 22 #[.pointer (some ⟨B, 0, none⟩), .int .i64 g, .int .i64 top] w fun e W' => e = .returned (.bool (belowT T g top)) ∧ Below w.heap.size w W' := by
  have h1 : 1 ≤ n := by omega
  have hBl := h.blk.lt
  have hql := (h.own.lt q rfl).2
  have hup := up_in F (n - 1) h37 hro B g ((w.alloc (.cells #[.int .i64 top] 3)).alloc (.cells #[.bool false] 4))
  have hb0 : Below w.heap.size w ((w.alloc (.cells #[.int .i64 top] 3)).alloc (.cells #[.bool false] 4)) := (by repeat (first | exact Below.refl _ _ | assumption | refine Below.setCell ?_ (by first | omega | (simp; done) | (simp; omega)) _ | refine Below.drew ?_ | refine Below.alloc ?_ (by first | omega | (simp; done) | (simp; omega)) _ | refine Below.trans ?_ (Below.mono (by assumption) (by first | omega | (simp; done) | (simp; omega)))))
  have hU := upAt_new (h.keep hb0 hBl hql) (by simp; omega) (by simp; omega) g
  clear h
  refine callsIn_of_wp_marks Try.func22 rfl h22 ?_ hro
  simp only [Try.ntmps22, List.size_toArray, List.length_cons, List.length_nil, Nat.reduceAdd, Nat.reduceSub, Array.replicate_succ, Array.replicate_zero, List.push_toArray, List.append_toArray, List.nil_append, List.cons_append]
  gi_wp2
  refine hup.mono ?_
  rintro e w1 ⟨rfl, rfl⟩
  clear hup
  gi_wp2
  obtain ⟨W0, hW0⟩ : ∃ W0, (((w.alloc (.cells #[.int .i64 top] 3)).alloc (.cells #[.bool false] 4)).alloc (.cells #[.pointer (some ⟨B, 0, none⟩)] 23)).alloc (.cells #[.int .i64 g] 3) = W0 := ⟨_, rfl⟩
  have hs0 : W0.heap.size = w.heap.size + 4 := by rw [← hW0]; simp
  have hBW : Below w.heap.size w W0 := by rw [← hW0]; exact (by repeat (first | exact Below.refl _ _ | assumption | refine Below.setCell ?_ (by first | omega | (simp; done) | (simp; omega)) _ | refine Below.drew ?_ | refine Below.alloc ?_ (by first | omega | (simp; done) | (simp; omega)) _ | refine Below.trans ?_ (Below.mono (by assumption) (by first | omega | (simp; done) | (simp; omega)))))
  have x1 : Boxed W0 w.heap.size 3 (.int .i64 top) := by rw [← hW0]; exact (((Boxed.new w _ _).alloc _).alloc _).alloc _
  have x2 : Boxed W0 (w.heap.size + 1) 4 (.bool false) := by
    rw [← hW0]
    have := Boxed.new (w.alloc (.cells #[.int .i64 top] 3)) 4 (.bool false)
    rw [World.size_alloc] at this
    exact (this.alloc _).alloc _
  simp only [World.size_alloc] at hU
  rw [hW0] at hU ⊢
  refine rangeG hro h1 (gf := 39) (lb := #[.pointer (some ⟨w.heap.size + 2, 0, none⟩), .pointer (some ⟨w.heap.size + 3, 0, none⟩)]) rfl h39 (enters_of Try.func39 (by kernel_rfl) rfl) (G := w.heap.size + 3) (by omega)
    (up_seq F (n - 1) h25 h26 h39 hro (by omega) base (w.heap.size + 4) B q cap _ _ T hT g W0 hU (by omega)) belowK_t (belowK_b (by omega)) (Below.refl _ _) (fun _ => rfl)
    (fun pre W => ((∀ z ∈ pre, z ≠ top) ∧ Boxed W w.heap.size 3 (.int .i64 top) ∧ Boxed W (w.heap.size + 1) 4 (.bool false)) ∧ Below w.heap.size w W)
    (fun c pre W => (c = .ret ∧ top ∈ pre ∧ Boxed W (w.heap.size + 1) 4 (.bool true)) ∧ Below w.heap.size w W)
    (((OwnG.pure _).and ((boxG (fun _ => _) (by omega)).and (boxG (fun _ => _) (by omega)))).and (belowG (by omega) (by omega) (by omega)))
    (fun c => ((OwnG.pure _).and ((OwnG.pure _).and (boxG (fun _ => _) (by omega)))).and (belowG (by omega) (by omega) (by omega)))
    ⟨⟨by simp, x1, x2⟩, hBW⟩
    (fun x => { tmps := #[.pointer (some ⟨B, 0, none⟩), .int .i64 g, .int .i64 top, undef, undef, .pointer (some ⟨w.heap.size, 0, none⟩), .pointer (some ⟨w.heap.size + 1, 0, none⟩), encI x, .pointer (some ⟨B, 0, none⟩), .int .i64 g, .func (.func 39) #[] #[.pointer (some ⟨w.heap.size + 2, 0, none⟩), .pointer (some ⟨w.heap.size + 3, 0, none⟩)], encI x, undef, undef, undef], defers := [] }) ?assign ?body ?done ?stop
  case assign =>
    intro l x W K hK
    gi_wp2
    exact hK
  case body =>
    rintro l pre x W ⟨⟨hno, y1, y2⟩, hB⟩ hlt
    have c1 := y1.cell
    have c2 := y2.cell
    have f2 := y2.frozen
    by_cases hx : x = top
    · have hb : (x == top) = true := by simpa using hx
      have HX := Lib.hid hx
      clear hx
      gi_wp2
      refine ⟨(KeepsOthers.setCell _ _ _).from _, ⟨rfl, List.mem_append.2 (.inr (by simp [HX.out])), ?_⟩, hB.setCell (p := ⟨w.heap.size + 1, 0, none⟩) (by simp) _⟩
      exact y2.set _
    · have hb : (x == top) = false := by simpa using hx
      have HX := Lib.hid hx
      clear hx
      gi_wp2
      exact ⟨KeepsFrom.refl _ _, Below.refl _ _, ⟨fun z hz => (List.mem_append.1 hz).elim (hno z) (fun e => by simp at e; rw [e]; exact HX.out), y1, y2⟩, hB⟩
  case done =>
    rintro D ys W hD rfl ⟨⟨hno, y1, y2⟩, hB⟩ hK
    have c2 := y2.cell
    have f2 := y2.frozen
    gi_wp2
    have hK' := (KeepsOthers.setCell W ⟨w.heap.size + 1, 0, none⟩ (.bool false)).same D _ hK rfl
    refine ⟨by simp, .inl ⟨_, _, rfl, run_takeDeferred hK', ?_⟩⟩
    have hc5 := cell_kept (World.cell?_setCell_same' W ⟨w.heap.size + 1, 0, none⟩ (.bool false) (by rw [c2]; rfl)) (grownBy_putObj' _ D (.deferred none)) (fun r e => by cases e; exact ⟨_, hK', rfl⟩)
    refine ⟨.bool false, by simp [results, Try.f22, go_sem, hc5], by rw [below_none hno], (hB.setCell (p := ⟨w.heap.size + 1, 0, none⟩) (by simp) _).trans (belowK_b (w := w) (Nat.le_refl _) _ D _ _ (by omega) hK' rfl rfl)⟩
  case stop =>
    rintro D c pre W hD hpre ⟨⟨rfl, hh, y2⟩, hB⟩ hK
    have c2 := y2.cell
    have f2 := y2.frozen
    gi_wp2
    refine ⟨by simp, .inl ⟨_, _, rfl, run_takeDeferred hK, ?_⟩⟩
    have hc5 := cell_kept c2 (grownBy_putObj' _ D (.deferred none)) (fun r e => by cases e; exact ⟨_, hK, rfl⟩)
    refine ⟨.bool true, by simp [results, Try.f22, go_sem, hc5], by rw [below_hit hpre hh], hB.trans (belowK_b (w := w) (Nat.le_refl _) W D _ _ (by omega) hK rfl rfl)⟩
theorem heir_any (w : World) (base B q cap : Nat) (T : List Gp) (g : Int) (h : TrAt w base B q cap T) (hT : WfT T) :
    Calls Try.prog 23 #[.pointer (some ⟨B, 0, none⟩), .int .i64 g] w fun e W' => e = .returned (.int .i64 (heirT T g)) ∧ Below w.heap.size w W' :=
  callsIn_wide.1 (heir_in Fence.wide 10 trivial trivial trivial trivial trivial trivial rfl (by omega) w base B q cap T g h hT)
theorem below_any (w : World) (base B q cap : Nat) (T : List Gp) (g top : Int) (h : TrAt w base B q cap T) (hT : WfT T) :
    Calls Try.prog 22 #[.pointer (some ⟨B, 0, none⟩), .int .i64 g, .int .i64 top] w fun e W' => e = .returned (.bool (belowT T g top)) ∧ Below w.heap.size w W' :=
  callsIn_wide.1 (below_in Fence.wide 10 trivial trivial trivial trivial trivial rfl (by omega) w base B q cap T g top h hT)
end Go.Proofs.Ytkkjnnmjfamkjaa
