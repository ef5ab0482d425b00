/- The program's Line: its calls are laid in a row. The program's Line: its calls are sorted. The program's Line: its calls are laid into a map. The program's Line: its state in the loops that do the calls. -/
import Derived.Test.YthmkmjoeceghiaaPLa
import Derived.Test.YthmkmjoeceghiaaQE
namespace Go.Proofs.Ythmkmjoeceghiaa
open Go.RowKit

attribute [local go_sem ↓] Go.wp_at_zero Go.wp_at_succ
theorem info78 : (Try.prog.info? 78).map (fun i => (i.zero, i.size, i.bytes)) = some (some (.pointer none), 1, 8) := by kernel_rfl
/-- the calls' addresses, in a row -/
def ptrs (cb : Nat → Nat) (τ : List Nat) : List Value := τ.map (pv cb)
theorem ptrs_congr {cb cb' : Nat → Nat} {τ : List Nat} (h : ∀ i ∈ τ, cb i = cb' i) : ptrs cb τ = ptrs cb' τ := by
  unfold ptrs
  exact List.map_congr_left fun i hi => by unfold pv; rw [h i hi]
theorem ptrs_app (cb : Nat → Nat) (a b : List Nat) : ptrs cb (a ++ b) = ptrs cb a ++ ptrs cb b := List.map_append
/-- the map by, empty -/
def D0 : DataW Value := .map []
/-- i calls are laid -/
structure L1 (l : List Sp) (w0 : World) (mb hB hM Mb base i : Nat) (cv : Value) (cb : Nat → Nat) (D : DataW Value) (wr : World) : Prop where
  m : Blk wr mb #[.pointer (some ⟨hB, 0, none⟩), cv, .map (some Mb), .slice none 0 0] 77
  c : ∀ j, j < i → Blk wr (cb j) (clC (sp l j) j false) 80
  cB : ∀ j, j < i → base ≤ cb j
  inj : ∀ j k, j < i → k < i → cb j = cb k → j = k
  own : wr.ownsRow base 78 1 cv i (ptrs cb (List.range i))
  h : Hp wr hB hM 0 []
  by_ : wr.ownsMap Try.prog 84 valR Mb 0 D
  below : Below w0.heap.size w0 wr
  big : base ≤ wr.heap.size
  mB : mb < base
  m0 : w0.heap.size ≤ mb
  M0 : w0.heap.size ≤ Mb
  H0 : w0.heap.size ≤ hM
  hB_ : hB < base
  MB : hM < base
  bB : Mb < base
  ne : hM ≠ Mb
section
variable {l : List Sp} {w0 : World} {mb hB hM Mb base i : Nat} {cv : Value} {cb : Nat → Nat} {D : DataW Value} {wr w' : World}
theorem L1.below' (h : L1 l w0 mb hB hM Mb base i cv cb D wr) (hb : Below wr.heap.size wr w') : L1 l w0 mb hB hM Mb base i cv cb D w' :=
  { h with
    m := h.m.below hb
    c := fun j hj => (h.c j hj).below hb
    own := owns_below h.own hb
    h := h.h.below hb
    by_ := own_at h.by_ (hb.block _ (by obtain ⟨es, cl, hh, _⟩ := h.by_; exact (Array.getElem?_eq_some_iff.1 hh).1))
    below := on2 h.below hb
    big := Nat.le_trans h.big hb.size }
theorem L1.far (h : L1 l w0 mb hB hM Mb base i cv cb D wr) (g : Nat) (e : cv.ownBlock = some g) : base ≤ g := (h.own.lt g e).1
/-- a call more -/
theorem L1.step (h : L1 l w0 mb hB hM Mb base i cv cb D wr) {o : Obj} {w1 : World} {v : Value} (hg : ((wr.alloc (.cells (clC (sp l i) i false) 80)).alloc o).grownBy w1 cv.ownBlock)
    (ho : w1.ownsRow base 78 1 v (i + 1) (ptrs cb (List.range i) ++ [.pointer (some ⟨wr.heap.size, 0, none⟩)])) :
    L1 l w0 mb hB hM Mb base (i + 1) v (fun j => if j = i then wr.heap.size else cb j) D (w1.setCell ⟨mb, 1, none⟩ v) := by
  have hbig := h.big
  have hb0 : Below wr.heap.size wr ((wr.alloc (.cells (clC (sp l i) i false) 80)).alloc o) := ((Below.refl _ _).alloc (Nat.le_refl _) _).alloc (by simp) _
  have hA := h.below' hb0
  have hsz : ((wr.alloc (.cells (clC (sp l i) i false) 80)).alloc o).heap.size = wr.heap.size + 2 := by simp
  have hC : Blk ((wr.alloc (.cells (clC (sp l i) i false) 80)).alloc o) wr.heap.size (clC (sp l i) i false) 80 := (Blk.new wr _ 80).alloc o
  have far : ∀ {g : Nat} {cs : Array Value} {t : TypeId}, Blk ((wr.alloc (.cells (clC (sp l i) i false) 80)).alloc o) g cs t → t ≠ 78 → Blk w1 g cs t := fun hb ht => hb.grown hg (fun e => by
    obtain ⟨cs', t', h1, h2⟩ := own_cells hA.own _ e.symm
    exact blk_ne hb h1 (by rw [h2]; exact ht) rfl)
  have hmp : some Mb ≠ cv.ownBlock := fun e => by have := h.far Mb e.symm; have := h.bB; omega
  have hhp : some hM ≠ cv.ownBlock := fun e => by have := h.far hM e.symm; have := h.MB; omega
  have m1 := far hA.m (by decide)
  have gs := set_grown w1 mb 1 v
  have hvm : v.ownBlock ≠ some mb := fun e => by have := (ho.lt mb e).1; have := h.mB; omega
  refine ⟨m1.set 1 v rfl, fun j hj => ?_, fun j hj => ?_, fun j k hj hk e => ?_, ?_, ?_, ?_, ?_, ?_, h.mB, h.m0, h.M0, h.H0, h.hB_, h.MB, h.bB, h.ne⟩
  · by_cases e : j = i
    · subst e; simp only [if_true]
      exact (far hC (by decide)).setOther (a := ⟨mb, 1, none⟩) (by show wr.heap.size ≠ mb; have := h.mB; omega) v
    · simp only [if_neg e]
      exact (far (hA.c j (by omega)) (by decide)).setOther (a := ⟨mb, 1, none⟩) (by show cb j ≠ mb; have := h.cB j (by omega); have := h.mB; omega) v
  · split
    · exact hbig
    · exact h.cB j (by omega)
  · have lt : ∀ j, j < i → cb j < wr.heap.size := fun j hj => (h.c j hj).lt
    by_cases e1 : j = i
    · by_cases e2 : k = i
      · omega
      · rw [if_pos e1, if_neg e2] at e; have := lt k (by omega); omega
    · by_cases e2 : k = i
      · rw [if_neg e1, if_pos e2] at e; have := lt j (by omega); omega
      · rw [if_neg e1, if_neg e2] at e; exact h.inj j k (by omega) (by omega) e
  · have e : ptrs (fun j => if j = i then wr.heap.size else cb j) (List.range (i + 1)) = ptrs cb (List.range i) ++ [.pointer (some ⟨wr.heap.size, 0, none⟩)] := by
      rw [List.range_succ, ptrs_app]
      congr 1
      · exact ptrs_congr fun j hj => by rw [if_neg (by have := List.mem_range.1 hj; omega)]
      · simp [ptrs, pv]
    rw [e]
    exact ho.kept gs (.inr (by simpa using hvm))
  · have hh := hA.h
    obtain ⟨Dm, hD, hw⟩ := hh.map
    exact ⟨(far hh.bB (by decide)).setOther (a := ⟨mb, 1, none⟩) (by show hB ≠ mb; exact blk_ne hh.bB hA.m (by decide)) v, ⟨Dm, (hD.kept hg hhp).kept gs (by simpa using hp_ne hh hA.m), hw⟩, hh.wf⟩
  · have hb2 := own_at hA.by_ (hg.block Mb (by rw [hsz]; have := h.bB; omega) hmp)
    exact own_at hb2 (gs.block Mb (by have := hg.size; rw [hsz] at this; have := h.bB; omega) (by simpa using map_ne hA.by_ hA.m))
  · refine Below.setCell (hA.below.grown hg hA.below.size (fun g e => ?_)) (show w0.heap.size ≤ mb from h.m0) v
    have := h.far g e; have := h.mB; have := h.m0; omega
  · have := hg.size; rw [hsz] at this; simp; omega
end
end Go.Proofs.Ythmkmjoeceghiaa
namespace Go.Proofs.Ythmkmjoeceghiaa
open Go.RowKit

attribute [local go_sem ↓] Go.wp_at_zero Go.wp_at_succ
set_option maxHeartbeats 400000 in
theorem insort_nil (w : World) : Calls Try.prog 79 #[.slice none 0 0, .int .i64 0, .int .i64 0, soonerV] w fun e w' => e = .returned (.tuple #[]) ∧ w = w' := by
  go_enter Try.func79, Try.ntmps79
  go_wp2_with fail
  refine wp_loop_rounds 1 ?_
  rw [rounds_succ]
  go_wp2_with fail
  go_end0
  exact ⟨rfl, rfl⟩
set_option maxHeartbeats 400000 in
theorem stable_nil (w : World) : Calls Try.prog 73 #[.slice none 0 0, .int .i64 0, soonerV] w fun e w' => e = .returned (.tuple #[]) ∧ w = w' := by
  go_enter Try.func73, Try.ntmps73
  go_wp2_with fail
  refine wp_loop_rounds 1 ?_
  rw [rounds_succ]
  go_wp2_with fail
  refine (insort_nil w).mono ?_
  rintro e w1 ⟨rfl, rfl⟩
  go_wp2_with fail
  refine wp_loop_rounds 1 ?_
  rw [rounds_succ]
  go_wp2_with fail
  go_end0
  exact ⟨rfl, rfl⟩
set_option maxHeartbeats 400000 in
theorem sort_nil (w : World) : Calls Try.prog 54 #[.slice none 0 0, soonerV] w fun e w' => e = .returned (.tuple #[]) ∧ w = w' := by
  go_enter Try.func54, Try.ntmps54
  go_wp2_with fail
  refine (stable_nil w).mono ?_
  rintro e w1 ⟨rfl, rfl⟩
  go_wp2_with fail
  go_end0
  exact ⟨rfl, rfl⟩
theorem ptrs_at {cb : Nat → Nat} {τ : List Nat} (j : Nat) : (ptrs cb τ)[j]? = (τ[j]?).map (pv cb) := List.getElem?_map ..
/-- an owned row of calls is one of RowN's -/
theorem rowN_of {w : World} {base g cap n : Nat} {cb : Nat → Nat} (h : w.ownsRow base 78 1 (.slice (some ⟨g, 0, none⟩) n cap) n (ptrs cb (List.range n))) : n ≤ cap ∧ ∃ z, RowN w g cap n cb z id := by
  rcases h.2 with ⟨h1, _⟩ | ⟨g', cap', cur, h1, _, h2, h3, _, h4, h5⟩
  · cases h1
  · obtain ⟨rfl, rfl⟩ : g = g' ∧ cap = cap' := by simpa using h1
    refine ⟨h3, fun j => (cur[j]?).getD undef, cur, h2, by omega, fun j hj => ?_⟩
    show cur[j]? = some (if j < n then Value.pointer (some ⟨cb (id j), 0, none⟩) else (cur[j]?).getD undef)
    by_cases hjn : j < n
    · rw [if_pos hjn]
      have := congrArg (·[j]?) h5
      simp only [ptrs_at, List.getElem?_take, Nat.mul_one, if_pos hjn, List.getElem?_range hjn, Option.map_some, Array.getElem?_toList] at this
      exact this
    · rw [if_neg hjn]
      rw [Array.getElem?_eq_getElem (by omega)]; rfl
theorem owns_rowN {w : World} {base g cap n : Nat} {cb : Nat → Nat} {z : Nat → Value} {f : Nat → Nat} (h : RowN w g cap n cb z f) (hb : base ≤ g) (hn : n ≤ cap) (hc : cap ≤ maxLen) : w.ownsRow base 78 1 (.slice (some ⟨g, 0, none⟩) n cap) n (ptrs cb (sig f n)) := by
  obtain ⟨c, h1, h2, h3⟩ := h
  refine ⟨by simp [ptrs, sig], .inr ⟨g, cap, c, rfl, hb, h1, hn, hc, by omega, ?_⟩⟩
  refine List.ext_getElem? fun j => ?_
  rw [List.getElem?_take, Nat.mul_one, ptrs_at]
  by_cases hj : j < n
  · rw [if_pos hj, sig_at hj, Array.getElem?_toList, h3 j (by omega)]; simp [hj, pv]
  · rw [if_neg hj, List.getElem?_eq_none (by rw [sig_len]; omega)]; rfl
def SortedV (l : List Sp) (base : Nat) (cb : Nat → Nat) (v : Value) (w : World) (e : Ending) (w' : World) : Prop :=
  e = .returned (.tuple #[]) ∧ ∃ f, w'.ownsRow base 78 1 v l.length (ptrs cb (sig f l.length)) ∧ All f l.length ∧ Srt l f 0 l.length ∧ w.grownBy w' v.ownBlock
theorem sorted_any (l : List Sp) (base : Nat) (cb : Nat → Nat) (v : Value) (w : World) (ho : w.ownsRow base 78 1 v l.length (ptrs cb (List.range l.length))) (hC : ∀ j, j < l.length → Blk w (cb j) (clC (sp l j) j false) 80) (hl : l.length ≤ 256) (hv : AllMay l) :
    Calls Try.prog 54 #[v, soonerV] w (SortedV l base cb v w) := by
  rcases id ho.2 with ⟨rfl, h0⟩ | ⟨g, cap, cur, rfl, hb, hh, hn, hc, _⟩
  · refine (sort_nil w).mono ?_
    rintro e w1 ⟨rfl, rfl⟩
    refine ⟨rfl, id, ?_, ⟨fun p hp => hp, fun q hq => ⟨q, hq, rfl⟩⟩, fun p q _ _ hq => by omega, grown_refl _ _⟩
    rw [h0]; exact World.ownsRow_nil _ _ _ _
  · obtain ⟨h1, z, hz⟩ := rowN_of ho
    have hT : TsAt w g l cb := fun i hi => ⟨(hC i hi).cell (i := 5) rfl, fun e => blk_ne (hC i hi) (show Blk w g cur 78 from hh) (by decide) e⟩
    refine (sort_calls l g cap cb z w hz hT h1 (by omega) (fun i hi => by have := hv i hi; unfold May at this; omega)).mono ?_
    rintro e w1 ⟨rfl, f, hR, hA, hS, hG⟩
    exact ⟨rfl, f, owns_rowN hR hb h1 hc, hA, hS, hG⟩
end Go.Proofs.Ythmkmjoeceghiaa
namespace Go.Proofs.Ythmkmjoeceghiaa
open Go.RowKit

/-- p calls of the sorted row are laid into the map -/
structure L2 (l : List Sp) (w0 : World) (mb hB hM Mb base b2 p : Nat) (cv : Value) (cb f : Nat → Nat) (D : DataW Value) (wr : World) : Prop where
  m : Blk wr mb #[.pointer (some ⟨hB, 0, none⟩), cv, .map (some Mb), .slice none 0 0] 77
  c : ∀ j, j < l.length → Blk wr (cb j) (clC (sp l j) j false) 80
  cB : ∀ j, j < l.length → base ≤ cb j ∧ cb j < b2
  inj : ∀ j k, j < l.length → k < l.length → cb j = cb k → j = k
  own : wr.ownsRow base 78 1 cv l.length (ptrs cb (sig f l.length))
  ob : ∀ g, cv.ownBlock = some g → g < b2
  h : Hp wr hB hM 0 []
  by_ : wr.ownsMap Try.prog 84 valR Mb p D
  rows : ∀ d : Dd, IsI d.1 → WfO d.2 → ∃ v, D.atKey (kd d) nilD = .held v ∧ wr.ownsRow b2 78 1 v (tau l (sig f p) d).length (ptrs cb (tau l (sig f p) d))
  apart : ∀ (d d' : Dd) (v v' : Value) (g : Nat), IsI d.1 → WfO d.2 → IsI d'.1 → WfO d'.2 → d ≠ d' → D.atKey (kd d) nilD = .held v → D.atKey (kd d') nilD = .held v' → v.ownBlock = some g → v'.ownBlock ≠ some g
  below : Below w0.heap.size w0 wr
  big : b2 ≤ wr.heap.size
  bb : base ≤ b2
  mB : mb < base
  m0 : w0.heap.size ≤ mb
  H0 : w0.heap.size ≤ hM
  hB_ : hB < base
  MB : hM < base
  M0 : w0.heap.size ≤ Mb
  bB : Mb < base
  ne : hM ≠ Mb
theorem isKd (d : Dd) : WideAt.IsKeyLit (kd d) := trivial
theorem sig_succ (f : Nat → Nat) (p : Nat) : sig f (p + 1) = sig f p ++ [f p] := by unfold sig; rw [List.range_succ, List.map_append]; rfl
theorem tau_same {l : List Sp} {f : Nat → Nat} {p : Nat} {d : Dd} (h : (sp l (f p)).1 = d) : tau l (sig f (p + 1)) d = tau l (sig f p) d ++ [f p] := by
  unfold tau; rw [sig_succ, List.filter_append]; simp [h]
theorem tau_other {l : List Sp} {f : Nat → Nat} {p : Nat} {d : Dd} (h : (sp l (f p)).1 ≠ d) : tau l (sig f (p + 1)) d = tau l (sig f p) d := by
  unfold tau; rw [sig_succ, List.filter_append]; simp [h]
theorem tau_len (l : List Sp) (f : Nat → Nat) (p : Nat) (d : Dd) : (tau l (sig f p) d).length ≤ p := by
  unfold tau; have := List.length_filter_le (fun i => decide ((sp l i).1 = d)) (sig f p); rw [sig_len] at this; exact this
section
variable {l : List Sp} {w0 : World} {mb hB hM Mb base b2 p i : Nat} {cv : Value} {cb f : Nat → Nat} {D : DataW Value} {wr w' : World}
theorem L2.below' (h : L2 l w0 mb hB hM Mb base b2 p cv cb f D wr) (hb : Below wr.heap.size wr w') : L2 l w0 mb hB hM Mb base b2 p cv cb f D w' :=
  { h with
    m := h.m.below hb
    c := fun j hj => (h.c j hj).below hb
    own := owns_below h.own hb
    h := h.h.below hb
    by_ := own_at h.by_ (hb.block _ (by obtain ⟨es, cl, hh, _⟩ := h.by_; exact (Array.getElem?_eq_some_iff.1 hh).1))
    rows := fun d h1 h2 => by
      obtain ⟨v, e, hr⟩ := h.rows d h1 h2
      exact ⟨v, e, owns_below hr hb⟩
    below := on2 h.below hb
    big := Nat.le_trans h.big hb.size }
/-- what is written lies in a row, or is the map -/
theorem L2.frame (h : L2 l w0 mb hB hM Mb base b2 p cv cb f D wr) {row : Option Nat} (hg : wr.grownBy w' row) (hr : ∀ g, row = some g → b2 ≤ g ∨ g = Mb) :
    Blk w' mb #[.pointer (some ⟨hB, 0, none⟩), cv, .map (some Mb), .slice none 0 0] 77 ∧ (∀ j, j < l.length → Blk w' (cb j) (clC (sp l j) j false) 80) ∧ w'.ownsRow base 78 1 cv l.length (ptrs cb (sig f l.length)) ∧ Hp w' hB hM 0 [] ∧ Below w0.heap.size w0 w' := by
  have hbb := h.bb
  have hmb := h.mB
  have hhb := h.hB_
  have hMB := h.MB
  have hbB := h.bB
  have hM0 := h.M0
  have hne := h.ne
  have hbig := h.big
  have hm0 := h.m0
  have mm : mb ≠ Mb := fun e => map_ne h.by_ h.m e.symm
  have lo : ∀ g, g < b2 → g ≠ Mb → some g ≠ row := fun g h1 h2 e => (hr g e.symm).elim (fun h => by omega) h2
  refine ⟨h.m.grown hg (lo mb (by omega) mm), fun j hj => (h.c j hj).grown hg (lo _ (h.cB j hj).2 (fun e => map_ne h.by_ (h.c j hj) e.symm)), h.own.kept hg ?_, ?_, h.below.grown hg h.below.size (fun g e => ?_)⟩
  · cases e : cv.ownBlock with
    | none => exact .inl rfl
    | some g =>
      refine .inr (lo g (h.ob g e) (fun e2 => ?_))
      obtain ⟨cs, t, h1, _⟩ := own_cells h.own g e
      exact map_ne h.by_ (show Blk wr g cs t from h1) e2.symm
  · have hh := h.h
    obtain ⟨Dm, hD, hw⟩ := hh.map
    exact ⟨hh.bB.grown hg (lo hB (by omega) (fun e => map_ne h.by_ hh.bB e.symm)), ⟨Dm, hD.kept hg (lo hM (by omega) hne), hw⟩, hh.wf⟩
  · rcases hr g e with h1 | h1
    · omega
    · omega
/-- a call more: wx: the entry is asked for; wy: the row has grown; wz: the entry is stored -/
theorem L2.step (h : L2 l w0 mb hB hM Mb base b2 p cv cb f D wr) {wx wy wz : World} {v v2 : Value} {gg cc : Nat} (hk : IsI (sp l (f p)).1.1) (hw : WfO (sp l (f p)).1.2) (hv : D.atKey (kd (sp l (f p)).1) nilD = .held v)
    (hx : wr.grownBy wx (some Mb)) (hy : wx.grownBy wy v.ownBlock) (hz : wy.grownBy wz (some Mb)) (hv2 : v2 = .slice (some ⟨gg, 0, none⟩) ((tau l (sig f p) (sp l (f p)).1).length + 1) cc) (hgg : v.ownBlock = some gg ∨ gg = wx.heap.size)
    (ho : wy.ownsRow b2 78 1 v2 ((tau l (sig f p) (sp l (f p)).1).length + 1) (ptrs cb (tau l (sig f p) (sp l (f p)).1) ++ [pv cb (f p)]))
    (hm : wz.ownsMap Try.prog 84 valR Mb (p + 1) (D.put (kd (sp l (f p)).1) (.held v2))) : L2 l w0 mb hB hM Mb base b2 (p + 1) cv cb f (D.put (kd (sp l (f p)).1) (.held v2)) wz := by
  have hbb := h.bb
  have hbB := h.bB
  have hIM := h.by_.isMap
  have hbig := h.big
  have hs1 := hx.size
  have hs2 := hy.size
  have hs3 := hz.size
  obtain ⟨v', hv', hro⟩ := h.rows _ hk hw
  rw [hv] at hv'
  obtain rfl : v = v' := by injection hv'
  have vb : ∀ g, v.ownBlock = some g → b2 ≤ g := fun g e => (hro.lt g e).1
  -- the three steps, as to what is no row
  obtain ⟨f1, f2, f3, f4, f5⟩ := h.frame hx (fun g e => by cases e; exact .inr rfl)
  have hyb : ∀ g, v.ownBlock = some g → b2 ≤ g ∨ g = Mb := fun g e => .inl (vb g e)
  have one : ∀ {w1 w2 : World} {row : Option Nat}, w1.grownBy w2 row → (∀ g, row = some g → b2 ≤ g ∨ g = Mb) → wr.heap.size ≤ w1.heap.size → ∀ b, b < b2 → b ≠ Mb → w2.heap[b]? = w1.heap[b]? := fun hg hr hs b h1 h2 => hg.block b (by omega) (fun e => (hr b e.symm).elim (fun h => by omega) h2)
  have all : ∀ b, b < b2 → b ≠ Mb → wz.heap[b]? = wr.heap[b]? := fun b h1 h2 =>
    ((one hz (fun g e => by cases e; exact .inr rfl) (by omega) b h1 h2).trans (one hy hyb (by omega) b h1 h2)).trans (one hx (fun g e => by cases e; exact .inr rfl) (by omega) b h1 h2)
  have blk : ∀ {b : Nat} {cs : Array Value} {t : TypeId}, Blk wr b cs t → b < b2 → Blk wz b cs t := fun hb h1 => (all _ h1 (fun e => map_ne h.by_ hb e.symm)).trans hb
  have hmb := h.mB
  have hhb := h.hB_
  have hMB := h.MB
  have hM0 := h.M0
  have bel : Below w0.heap.size w0 wz := ((h.below.grown hx h.below.size (fun g e => by cases e; exact hM0)).grown hy (by have := h.below.size; omega) (fun g e => by have := vb g e; have := h.m0; omega)).grown hz (by have := h.below.size; omega) (fun g e => by cases e; exact hM0)
  -- another row
  have oth : ∀ (d' : Dd) (u : Value), IsI d'.1 → WfO d'.2 → d' ≠ (sp l (f p)).1 → D.atKey (kd d') nilD = .held u → wr.ownsRow b2 78 1 u (tau l (sig f p) d').length (ptrs cb (tau l (sig f p) d')) → wz.ownsRow b2 78 1 u (tau l (sig f p) d').length (ptrs cb (tau l (sig f p) d')) := fun d' u h1 h2 hne hu hr => by
    have nm : u.ownBlock ≠ some Mb := fun e => by have := (hr.lt Mb e).1; omega
    refine ((hr.kept hx (.inr nm)).kept hy ?_).kept hz (.inr nm)
    cases e : u.ownBlock with
    | none => exact .inl rfl
    | some g => exact .inr fun e2 => h.apart _ _ _ _ g hk hw h1 h2 (Ne.symm hne) hv hu e2.symm e
  have ne_of : ∀ d' : Dd, IsI d'.1 → WfO d'.2 → d' ≠ (sp l (f p)).1 → kd d' ≠ kd (sp l (f p)).1 := fun d' h1 h2 hne e => hne (kd_inj ⟨h1, h2⟩ ⟨hk, hw⟩ e)
  have new : ∀ (d' : Dd) (u : Value), IsI d'.1 → WfO d'.2 → d' ≠ (sp l (f p)).1 → D.atKey (kd d') nilD = .held u → u.ownBlock ≠ some gg := fun d' u h1 h2 hne hu e => by
    rcases hgg with h3 | h3
    · exact h.apart _ _ _ _ gg hk hw h1 h2 (Ne.symm hne) hv hu h3 e
    · obtain ⟨u', hu', hr⟩ := h.rows d' h1 h2
      rw [hu] at hu'
      obtain rfl : u = u' := by injection hu'
      have := (hr.lt gg e).2
      omega
  have ob2 : v2.ownBlock = some gg := by rw [hv2]; rfl
  refine ⟨blk h.m (by omega), fun j hj => blk (h.c j hj) (h.cB j hj).2, h.cB, h.inj, ?_, h.ob, ?_, hm, fun d h1 h2 => ?_, fun d d' u u' g h1 h2 h3 h4 hne hu hu' e1 e2 => ?_, bel, by omega, h.bb, h.mB, h.m0, h.H0, h.hB_, h.MB, h.M0, h.bB, h.ne⟩
  · exact owns_of_heap h.own (fun g e => all g (h.ob g e) (fun e2 => by
      obtain ⟨cs, t, h1, _⟩ := own_cells h.own g e
      exact map_ne h.by_ (show Blk wr g cs t from h1) e2.symm))
  · have hh := h.h
    obtain ⟨Dm, ⟨es, cl, hb, r⟩, hw'⟩ := hh.map
    exact ⟨blk hh.bB (by omega), ⟨Dm, ⟨es, cl, (all hM (by omega) h.ne).trans hb, r⟩, hw'⟩, hh.wf⟩
  · by_cases e : d = (sp l (f p)).1
    · subst e
      refine ⟨v2, Maps.atKey_put_same hIM (isKd _) _ _, ?_⟩
      rw [tau_same rfl, ptrs_app, List.length_append]
      refine ho.kept hz (.inr fun e => ?_)
      have := (ho.lt Mb e).1; omega
    · obtain ⟨u, hu, hr⟩ := h.rows d h1 h2
      refine ⟨u, ?_, ?_⟩
      · rw [Maps.atKey_put_other (ne_of d h1 h2 e)]; exact hu
      · rw [tau_other (Ne.symm e)]; exact oth d u h1 h2 e hu hr
  · by_cases e : d = (sp l (f p)).1
    · have e' : d' ≠ (sp l (f p)).1 := fun e' => hne (e.trans e'.symm)
      subst e
      rw [Maps.atKey_put_same hIM (isKd _)] at hu
      rw [Maps.atKey_put_other (ne_of d' h3 h4 e')] at hu'
      obtain rfl : v2 = u := by injection hu
      rw [ob2] at e1
      obtain rfl : gg = g := by injection e1
      exact new d' u' h3 h4 e' hu' e2
    · rw [Maps.atKey_put_other (ne_of d h1 h2 e)] at hu
      by_cases e' : d' = (sp l (f p)).1
      · subst e'
        rw [Maps.atKey_put_same hIM (isKd _)] at hu'
        obtain rfl : v2 = u' := by injection hu'
        rw [ob2] at e2
        obtain rfl : gg = g := by injection e2
        exact new d u h1 h2 e hu e1
      · rw [Maps.atKey_put_other (ne_of d' h3 h4 e')] at hu'
        exact h.apart d d' u u' g h1 h2 h3 h4 hne hu hu' e1 e2
/-- the row is sorted, the map still empty -/
theorem L1.sorted (h : L1 l w0 mb hB hM Mb base l.length cv cb D0 wr) (hO : w'.ownsRow base 78 1 cv l.length (ptrs cb (sig f l.length))) (hg : wr.grownBy w' cv.ownBlock) : L2 l w0 mb hB hM Mb base w'.heap.size 0 cv cb f D0 w' := by
  have hbig := h.big
  have hs := hg.size
  have := h.mB
  have := h.hB_
  have := h.MB
  have := h.bB
  have lo : ∀ g, g < base → some g ≠ cv.ownBlock := fun g h1 e => by have := h.far g e.symm; omega
  have cc : ∀ j, j < l.length → some (cb j) ≠ cv.ownBlock := fun j hj e => by
    obtain ⟨cs, t, h1, h2⟩ := own_cells h.own (cb j) e.symm
    exact blk_ne (h.c j hj) (show Blk wr (cb j) cs t from h1) (by rw [h2]; decide) rfl
  have hh := h.h
  refine ⟨h.m.grown hg (lo mb h.mB), fun j hj => (h.c j hj).grown hg (cc j hj), fun j hj => ⟨h.cB j hj, by have := (h.c j hj).lt; omega⟩, h.inj, hO, fun g e => (hO.lt g e).2, ?_, h.by_.kept hg (lo Mb h.bB), fun d h1 h2 => ⟨.slice none 0 0, rfl, World.ownsRow_nil _ _ _ _⟩,
    fun d d' v v' g _ _ _ _ _ hv _ e => ?_, h.below.grown hg h.below.size (fun g e => by have := h.far g e; have := h.m0; omega), Nat.le_refl _, by omega, h.mB, h.m0, h.H0, h.hB_, h.MB, h.M0, h.bB, h.ne⟩
  · obtain ⟨Dm, hD, hw⟩ := hh.map
    exact ⟨hh.bB.grown hg (lo hB h.hB_), ⟨Dm, hD.kept hg (lo hM h.MB), hw⟩, hh.wf⟩
  · have : v = .slice none 0 0 := by
      have hv' : (nilD : DataW Value) = .held v := hv
      injection hv' with hv'; exact hv'.symm
    rw [this] at e; cases e
/-- behind the loop -/
theorem L2.pl (h : L2 l w0 mb hB hM Mb base b2 l.length cv cb f D wr) : Pl l wr mb hB hM Mb cb (sig f l.length) cv D 0 [] [] (.slice none 0 0) wr := by
  have hbb := h.bb
  have hbig := h.big
  have := h.mB
  have := h.hB_
  have := h.MB
  have := h.bB
  refine ⟨h.m, fun i hi => by simpa using h.c i hi, h.inj, h.h, Nat.zero_le _, h.by_, fun d h1 h2 => ?_, World.ownsRow_nil _ _ _ _, by omega, fun i hi => by have := h.cB i hi; omega, by omega, by omega, by omega, h.ne, Nat.le_refl _⟩
  obtain ⟨v, hv, hr⟩ := h.rows d h1 h2
  obtain ⟨a, c, rfl, _, _⟩ := owns_form hr
  refine ⟨a, c, hv, fun hne => ?_⟩
  rcases hr.2 with ⟨e, h0⟩ | ⟨g, cap, cur, e, h3, h4, h5, h6, h7, h8⟩
  · exact absurd (List.eq_nil_of_length_eq_zero h0) hne
  · obtain ⟨rfl, rfl⟩ : a = some ⟨g, 0, none⟩ ∧ c = cap := by simpa using e
    refine ⟨g, cur, rfl, (Array.getElem?_eq_some_iff.1 h4).1, h4, fun j i hj => ?_⟩
    have h9 := congrArg (·[j]?) h8
    have hjl := (List.getElem?_eq_some_iff.1 hj).1
    simp only [ptrs_at, List.getElem?_take, Nat.mul_one, if_pos hjl, hj, Option.map_some, Array.getElem?_toList] at h9
    exact h9
end
end Go.Proofs.Ythmkmjoeceghiaa
namespace Go.Proofs.Ythmkmjoeceghiaa
open Go.RowKit

theorem PtrRow.kept {w w' : World} {bd : Nat} {a : Option Addr} {cb : Nat → Nat} {τ : List Nat} (h : PtrRow w bd a cb τ) (hb : ∀ (g : Nat) (cs : Array Value), g < bd → Blk w g cs 78 → Blk w' g cs 78) : PtrRow w' bd a cb τ := fun hne => by
  obtain ⟨g, cs, ha, hg, hc, hj⟩ := h hne
  exact ⟨g, cs, ha, hg, hb g cs hg hc, hj⟩
theorem ptrRow_of {w : World} {base n c : Nat} {a : Option Addr} {cb : Nat → Nat} {τ : List Nat} (hr : w.ownsRow base 78 1 (.slice a n c) n (ptrs cb τ)) (hτ : τ.length = n) : PtrRow w w.heap.size a cb τ := fun hne => by
  rcases hr.2 with ⟨e, h0⟩ | ⟨g, cap, cur, e, h3, h4, h5, h6, h7, h8⟩
  · exact absurd (List.eq_nil_of_length_eq_zero (by omega)) hne
  · obtain ⟨rfl, rfl⟩ : a = some ⟨g, 0, none⟩ ∧ c = cap := by simpa using e
    refine ⟨g, cur, rfl, (Array.getElem?_eq_some_iff.1 h4).1, h4, fun j i hj => ?_⟩
    have h9 := congrArg (·[j]?) h8
    have hjl := (List.getElem?_eq_some_iff.1 hj).1
    simp only [ptrs_at, List.getElem?_take, Nat.mul_one, if_pos (show j < n by omega), hj, Option.map_some, Array.getElem?_toList] at h9
    exact h9
theorem sig_nodup {l : List Sp} {σ : List Nat} (h : σ.Pairwise (before l)) : σ.Nodup := List.Pairwise.imp_of_mem (fun {a b} _ _ hab e => by subst e; exact before_irr hab) h
theorem base_lt {l : List Sp} {out : List Nat} {S : List Ob} {c x : Nat} (h : base l out S c = some x) (hc : c < l.length) : x < l.length := by
  unfold base at h
  split at h
  · exact least_lt h
  · obtain rfl := Option.some.inj h; exact hc
/-- who is helped by a give, or is one, is no bad -/
theorem base_ne4 {l : List Sp} {out : List Nat} {S : List Ob} {c x : Nat} (h : base l out S c = some x) (hx : (sp l x).1.1 = 1) : (sp l c).1.1 ≠ 4 := by
  intro h4
  unfold base at h
  split at h
  · rename_i hb
    have h1 := (hlp_some h).2
    rw [hx] at h1
    have h2 : (sp l c).1.2 ∉ S := fun hm => by unfold hlpK at h1; rw [if_pos hm] at h1; cases h1
    unfold blocked at hb
    rw [h4, decide_eq_false h2] at hb
    revert hb; decide
  · obtain rfl := Option.some.inj h; omega
/-- p calls of the sorted row are done; out is done, S is out -/
structure Lp (l : List Sp) (w W : World) (mb hB hM Mb : Nat) (cb : Nat → Nat) (σ : List Nat) (ca : Option Addr) (cc : Nat) (D : DataW Value) (p nn : Nat) (out : List Nat) (S : List Ob) (ov : Value) (wr : World) : Prop where
  pl : Pl l W mb hB hM Mb cb σ (.slice ca l.length cc) D nn out S ov wr
  row : PtrRow wr W.heap.size ca cb σ
  below : Below w.heap.size w wr
  pre : ∀ y ∈ σ.take p, y ∈ out
  nd : out.Nodup
  lt : ∀ j ∈ out, j < l.length
  fin : lineF l (l.length + 1 - out.length) out S = lineT l
  wM : w.heap.size ≤ hM
  wm : w.heap.size ≤ mb
  wc : ∀ i, i < l.length → w.heap.size ≤ cb i
  wW : w.heap.size ≤ W.heap.size
section
variable {l : List Sp} {w W : World} {mb hB hM Mb : Nat} {cb : Nat → Nat} {σ : List Nat} {ca : Option Addr} {cc : Nat} {D : DataW Value} {p nn : Nat} {out : List Nat} {S : List Ob} {ov : Value} {wr w' : World}
theorem Lp.below' (h : Lp l w W mb hB hM Mb cb σ ca cc D p nn out S ov wr) (hb : Below wr.heap.size wr w') : Lp l w W mb hB hM Mb cb σ ca cc D p nn out S ov w' :=
  { h with pl := h.pl.below hb, row := h.row.kept (fun _ _ _ hc => hc.below hb), below := on2 h.below hb }
theorem Lp.next (h : Lp l w W mb hB hM Mb cb σ ca cc D p nn out S ov wr) {c : Nat} (hc : σ[p]? = some c) (hco : c ∈ out) : Lp l w W mb hB hM Mb cb σ ca cc D (p + 1) nn out S ov wr :=
  ⟨h.pl, h.row, h.below, fun y hy => by
    rw [take_succ hc] at hy
    exact (List.mem_append.1 hy).elim (h.pre y) (fun h => by
      obtain rfl : y = c := by simpa using h
      exact hco), h.nd, h.lt, h.fin, h.wM, h.wm, h.wc, h.wW⟩
theorem Lp.len (h : Lp l w W mb hB hM Mb cb σ ca cc D p nn out S ov wr) : out.length ≤ l.length := nodup_len _ _ h.nd h.lt
theorem nodup_app {a b : List Nat} (ha : a.Nodup) (hb : b.Nodup) (h : ∀ x ∈ b, x ∉ a) : (a ++ b).Nodup :=
  List.nodup_append.2 ⟨ha, hb, fun x hx y hy e => h y hy (e ▸ hx)⟩
/-- the bads ahead of c's give are done -/
theorem Lp.bads (h : Lp l w W mb hB hM Mb cb σ ca cc D p nn out S ov wr) (hσ : σ.Pairwise (before l)) (hm : ∀ i, i ∈ σ ↔ i < l.length) (hn : σ.Nodup) {c x : Nat} (hx : (sp l x).1.1 = 1) (hc4 : (sp l c).1.1 ≠ 4) (hu : urg l out = some c) (hb : base l out S c = some x) {ov' : Value}
    (hP : Pl l W mb hB hM Mb cb σ (.slice ca l.length cc) D nn (out ++ badsOf l σ out c) S ov' w') (hK : Kp wr w' W.heap.size (Own2 l mb cb)) :
    Lp l w W mb hB hM Mb cb σ ca cc D p nn (out ++ badsOf l σ out c) S ov' w' ∧ urg l (out ++ badsOf l σ out c) = some c ∧ pick l (out ++ badsOf l σ out c) S c = some x := by
  have e := badsOf_eq l σ out c
  have hin : ∀ y ∈ badsOf l σ out c, y < l.length ∧ y ∉ out := fun y hy => by
    rw [e] at hy
    have h1 := List.mem_filter.1 hy
    exact ⟨(hm y).1 h1.1, ((badP_iff l out c y).1 h1.2).1⟩
  have nd' : (out ++ badsOf l σ out c).Nodup := nodup_app h.nd (by rw [e]; exact hn.filter _) (fun y hy => (hin y hy).2)
  have lt' : ∀ j ∈ out ++ badsOf l σ out c, j < l.length := fun j hj => (List.mem_append.1 hj).elim (h.lt j) (fun h => (hin j h).1)
  have hlen := nodup_len _ _ nd' lt'
  have hlb := line_bads hσ hm hn hx hc4 (badsOf l σ out c) (l.length + 1 - (out ++ badsOf l σ out c).length) out e.symm hu hb
  have hl : l.length + 1 - (out ++ badsOf l σ out c).length + (badsOf l σ out c).length = l.length + 1 - out.length := by rw [List.length_append] at hlen ⊢; omega
  rw [hl, h.fin] at hlb
  refine ⟨⟨hP, h.row.kept fun g cs hg hc => hK.Blk hc hg (fun h1 => h1.elim (fun e => blk_ne hc h.pl.m (by decide) e) (fun ⟨i, h1, h2⟩ => blk_ne hc (h.pl.c i h1) (by decide) h2)), hK.below h.below (fun b hb => ?_) h.wW, fun y hy => ?_, nd', lt', hlb.1.symm, h.wM, h.wm, h.wc, h.wW⟩, hlb.2.1, bad_iff2 hlb.2.2.1 hx hlb.2.2.2⟩
  · rcases hb with rfl | ⟨i, h1, rfl⟩
    · exact h.wm
    · exact h.wc i h1
  · exact List.mem_append.2 (.inl (h.pre y hy))
/-- a call is done -/
theorem Lp.step (h : Lp l w W mb hB hM Mb cb σ ca cc D p nn out S ov wr) {c x : Nat} (hu : urg l out = some c) (hp : pick l out S c = some x) (hx : x < l.length) (hxo : x ∉ out) {w1 w2 : World} (hH : Hp w1 hB hM (nn + 1) (doS S (sp l x).1)) (hg : wr.grownBy w1 (some hM)) {v : Value}
    (a1 : Blk w2 mb #[.pointer (some ⟨hB, 0, none⟩), .slice ca l.length cc, .map (some Mb), v] 77) (a2 : Blk w2 (cb x) (clC (sp l x) x true) 80)
    (a3 : w2.ownsRow W.heap.size 3 1 v (out.length + 1) (out.map encN ++ [encN x])) (a4 : Kp w1 w2 W.heap.size (fun b => b = mb ∨ b = cb x)) :
    Lp l w W mb hB hM Mb cb σ ca cc D p (nn + 1) (out ++ [x]) (doS S (sp l x).1) v w2 := by
  obtain ⟨d1, d2, d3, d4, d5⟩ := h.pl.did hH hg
  have P := h.pl
  have hs := hg.size
  have nd' : (out ++ [x]).Nodup := nodup_app h.nd (by simp) (fun y hy => by
    obtain rfl : y = x := by simpa using hy
    exact hxo)
  have lt' : ∀ j ∈ out ++ [x], j < l.length := fun j hj => (List.mem_append.1 hj).elim (h.lt j) (fun h => by
    obtain rfl : j = x := by simpa using h
    exact hx)
  have hlen := nodup_len _ _ nd' lt'
  have bk : ∀ (g : Nat) (cs : Array Value), Blk wr g cs 78 → Blk w1 g cs 78 := fun g cs hb => hb.grown hg (by simpa using Ne.symm (hp_ne h.pl.h hb))
  refine ⟨Pl.nexted d1 d2 d3 d4 hH (by have := P.hn; omega) P.inj P.mW P.cW P.hW P.MW P.bW P.ne (by have := P.big; omega) hx a1 a2 a3 a4,
    (h.row.kept fun g cs hg' hc => bk g cs hc).kept fun g cs hg' hc => a4.Blk hc hg' (fun h1 => h1.elim (fun e => blk_ne hc d1 (by decide) e) (fun e => blk_ne hc (d2 x hx) (by decide) e)),
    a4.below (h.below.grown hg h.below.size (fun g e => by cases e; exact h.wM)) (fun b hb => hb.elim (fun e => e ▸ h.wm) (fun e => e ▸ h.wc x hx)) h.wW, fun y hy => List.mem_append.2 (.inl (h.pre y hy)), nd', lt', ?_, h.wM, h.wm, h.wc, h.wW⟩
  rw [List.length_append, List.length_singleton] at hlen ⊢
  rw [← h.fin, show l.length + 1 - out.length = (l.length + 1 - (out.length + 1)) + 1 by omega, lineF_step hu hp]
end
end Go.Proofs.Ythmkmjoeceghiaa
