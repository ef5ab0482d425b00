/- The map from what is done to which object to the calls that do. The program's order of calls: its state. -/
import Derived.Test.YthmkmjoeceghiaaPG
import Derived.WideKeyEntry
import Derived.Maps.Views
import Derived.Test.YthmkmjoeceghiaaOY
namespace Go.Proofs.Ythmkmjoeceghiaa
open Go.RowKit Go.WideElems Go.ChangeMaps

theorem row84 : (84 : TypeId) < Try.prog.types.size := of_decide_eq_true (by kernel_rfl)
theorem wide84 : (match Try.prog.underlying 84 with | some (.array _ _) | some (.struct _) => true | _ => false) = true := by rw [Try.underlying84]
set_option maxRecDepth 1000000 in
theorem klaw84 : Go.WideMaps.KeyLaw Try.prog 84 := deep_law_laid laidOut (m := 3) (by omega) row84 (by kernel_rfl) wide84
theorem law84 : Maps.Keyed Try.prog 84 := Maps.Keyed.of_law klaw84
/-- what kind and object read as, as a key -/
def kd (d : Dd) : Lit := .string (keyBytes [.int .i64 d.1, .int .i64 d.2.1, .int .i64 d.2.2.1, .int .i64 d.2.2.2])
theorem key84 {d : Dd} (h1 : IsI d.1) (h2 : WfO d.2) : keyOf Try.prog 84 (ddV d) = some (kd d) := by
  have hk : Try.prog.keyType 84 = true := by kernel_rfl
  have hc : Try.prog.cellsOf 84 = 4 := by kernel_rfl
  have hc30 : Try.prog.cellsOf 30 = 3 := by kernel_rfl
  have hc3 : Try.prog.cellsOf 3 = 1 := by kernel_rfl
  obtain ⟨m, hm⟩ : ∃ m, Try.prog.types.size = m + 2 := ⟨_, (by kernel_rfl : Try.prog.types.size = (Try.prog.types.size - 2) + 2)⟩
  have hf : (ddV d).formed Try.prog 84 = true := by simp [Value.formed, Try.underlying84, hc]
  have w0 := lit_wf h1
  have w1 := lit_wf h2.1
  have w2 := lit_wf h2.2.1
  have w3 := lit_wf h2.2.2
  unfold keyOf
  rw [Try.underlying84]
  simp only [hk, hf, Bool.and_self, if_true]
  rw [hm]
  simp [Program.keyLits, Try.underlying84, Try.underlying30, Try.underlying3, hc, hc30, hc3, w0, w1, w2, w3, kd, Value.cells]
  rw [if_pos (by intro i hi; have h : i = 0 ∨ i = 1 ∨ i = 2 := (by omega); rcases h with rfl | rfl | rfl <;> simp)]
  rfl
theorem kd_inj {a b : Dd} (ha : IsI a.1 ∧ WfO a.2) (hb : IsI b.1 ∧ WfO b.2) (h : kd a = kd b) : a = b := by
  have h1 := key84 ha.1 ha.2
  have h2 := key84 hb.1 hb.2
  rw [h] at h1
  have := law84.inj h1 h2
  simp at this
  obtain ⟨a0, a1, a2, a3⟩ := a
  obtain ⟨b0, b1, b2, b3⟩ := b
  simpa using this
/-- an element reads as itself -/
def valR (v : Value) : Option (DataW Value × List MemPlace) := some (.held v, [])
abbrev nilD : DataW Value := .held (.slice none 0 0)
set_option maxRecDepth 100000 in
theorem zero75 (w : World) : (zeroValue 75).run Try.prog w = .ok (.slice none 0 0) w := by kernel_rfl
set_option maxRecDepth 100000 in
theorem by_look {w : World} {Mb n : Nat} {D : DataW Value} (h : w.ownsMap Try.prog 84 valR Mb n D) {d : Dd} (h1 : IsI d.1) (h2 : WfO d.2) : ∃ v, (Instr.lookup 74 (.map (some Mb)) (ddV d) false).run Try.prog w = .ok v w ∧ D.atKey (kd d) nilD = .held v := by
  obtain ⟨v, ps, hr, hv⟩ := h.lookup law84 Try.underlying74 (zero75 w) (zd := nilD) (zp := []) rfl (key84 h1 h2)
  exact ⟨v, hr, by unfold valR at hv; injection hv with hv; injection hv with hv _; exact hv.symm⟩
theorem own_at {w w' : World} {Mb n : Nat} {D : DataW Value} (h : w.ownsMap Try.prog 84 valR Mb n D) (e : w'.heap[Mb]? = w.heap[Mb]?) : w'.ownsMap Try.prog 84 valR Mb n D := by
  obtain ⟨es, cl, hb, r⟩ := h
  exact ⟨es, cl, e.trans hb, r⟩
set_option maxRecDepth 100000 in
/-- an entry is asked for, and stored back behind whatever leaves the map alone -/
theorem by_entry {w : World} {Mb n : Nat} {D : DataW Value} (h : w.ownsMap Try.prog 84 valR Mb n D) {d : Dd} (h1 : IsI d.1) (h2 : WfO d.2) (hn : n < maxLen) :
    ∃ (v : Value) (st : Nat) (w1 : World), (Instr.mapEntry 74 (.map (some Mb)) (ddV d)).run Try.prog w = .ok (.tuple #[v, goInt st]) w1 ∧ w.grownBy w1 (some Mb) ∧ D.atKey (kd d) nilD = .held v ∧
      ∀ (w2 : World) (val : Value), w2.heap[Mb]? = w1.heap[Mb]? → ∃ w3, (Instr.entryStore 74 (.map (some Mb)) (goInt st) val).run Try.prog w2 = .ok () w3 ∧ w2.grownBy w3 (some Mb) ∧ w3.ownsMap Try.prog 84 valR Mb (n + 1) (D.put (kd d) (.held val)) := by
  have hkey := key84 h1 h2
  obtain ⟨es, clock, hb, F, hsz, hD⟩ := id h
  obtain ⟨v0, st, es1, clock1, hrun, hv, hst⟩ := entry_then_store klaw84 Try.underlying74 (z := .slice none 0 0) (fun u => zero75 u) hb F hkey
  have hb1 : (setBlock w Mb (.map es1 clock1)).heap[Mb]? = some (.map es1 clock1) := heap_setBlock_same hb _
  refine ⟨v0, st, _, hrun, ⟨rfl, rfl, rfl, by simp [setBlock], fun i _ hi => heap_setBlock_other hb _ (fun e => hi (by rw [e]))⟩, ?_, fun w2 val hw2 => ?_⟩
  · rcases hv with ⟨e0, he0, hk0, rfl⟩ | ⟨hno, rfl⟩
    · rw [hD, atKey_some klaw84 F hkey he0 hk0 (z := (.held e0.val, [])) rfl]
    · rw [hD, Go.WideElems.atKey_none klaw84 F hkey hno]
  · rw [hb1] at hw2
    obtain ⟨es', clock', hr2, hr3⟩ := hst w2 val hw2
    obtain ⟨w', hu, ho, hg⟩ := h.update law84 Try.underlying74 hn (val := val) (d := .held val) (ps := []) hkey rfl
    rw [hr3] at hu
    have he : setBlock w Mb (.map es' clock') = w' := by injection hu
    subst he
    refine ⟨_, hr2, ⟨rfl, rfl, rfl, by simp [setBlock], fun i _ hi => heap_setBlock_other hw2 _ (fun e => hi (by rw [e]))⟩, own_at ho ?_⟩
    rw [heap_setBlock_same hw2, heap_setBlock_same hb]
end Go.Proofs.Ythmkmjoeceghiaa
namespace Go.Proofs.Ythmkmjoeceghiaa
open Go.RowKit

/-- the calls in the order of their ends -/
def sig (f : Nat → Nat) (n : Nat) : List Nat := (List.range n).map f
theorem sig_mem {f : Nat → Nat} {n : Nat} (h : All f n) (i : Nat) : i ∈ sig f n ↔ i < n := by
  unfold sig
  rw [List.mem_map]
  constructor
  · rintro ⟨p, hp, rfl⟩; exact h.lt p (List.mem_range.1 hp)
  · intro hi
    obtain ⟨p, hp, he⟩ := h.on i hi
    exact ⟨p, List.mem_range.2 hp, he⟩
theorem sig_row {l : List Sp} {f : Nat → Nat} {n : Nat} (h : Srt l f 0 n) : (sig f n).Pairwise (before l) := by
  unfold sig
  rw [List.pairwise_map]
  refine List.Pairwise.imp_of_mem (fun {a b} ha hb hab => h a b (Nat.zero_le _) hab (List.mem_range.1 hb)) List.pairwise_lt_range
theorem sig_at {f : Nat → Nat} {n j : Nat} (h : j < n) : (sig f n)[j]? = some (f j) := by unfold sig; simp [h]
theorem sig_len (f : Nat → Nat) (n : Nat) : (sig f n).length = n := by unfold sig; simp
/-- the calls that do d -/
def tau (l : List Sp) (σ : List Nat) (d : Dd) : List Nat := σ.filter fun i => decide ((sp l i).1 = d)
/-- a row of calls that nothing writes any more -/
def PtrRow (w : World) (bd : Nat) (a : Option Addr) (cb : Nat → Nat) (τ : List Nat) : Prop :=
  τ ≠ [] → ∃ (g : Nat) (cs : Array Value), a = some ⟨g, 0, none⟩ ∧ g < bd ∧ w.heap[g]? = some (.cells cs 78 (0, 0)) ∧ ∀ (j i : Nat), τ[j]? = some i → cs[j]? = some (Value.pointer (some ⟨cb i, 0, none⟩))
structure Pl (l : List Sp) (W : World) (mb hB hM Mb : Nat) (cb : Nat → Nat) (σ : List Nat) (cv : Value) (D : DataW Value) (nn : Nat) (out : List Nat) (S : List Ob) (ov : Value) (wr : World) : Prop where
  m : Blk wr mb #[.pointer (some ⟨hB, 0, none⟩), cv, .map (some Mb), ov] 77
  c : ∀ i, i < l.length → Blk wr (cb i) (clC (sp l i) i (decide (i ∈ out))) 80
  inj : ∀ i j, i < l.length → j < l.length → cb i = cb j → i = j
  h : Hp wr hB hM nn S
  hn : nn ≤ out.length
  by_ : wr.ownsMap Try.prog 84 valR Mb l.length D
  rows : ∀ d : Dd, IsI d.1 → WfO d.2 → ∃ a c, D.atKey (kd d) nilD = .held (.slice a (tau l σ d).length c) ∧ PtrRow wr W.heap.size a cb (tau l σ d)
  own : wr.ownsRow W.heap.size 3 1 ov out.length (out.map encN)
  mW : mb < W.heap.size
  cW : ∀ i, i < l.length → cb i < W.heap.size
  hW : hB < W.heap.size
  MW : hM < W.heap.size
  bW : Mb < W.heap.size
  ne : hM ≠ Mb
  big : W.heap.size ≤ wr.heap.size
section
variable {l : List Sp} {W : World} {mb hB hM Mb : Nat} {cb : Nat → Nat} {σ : List Nat} {cv : Value} {D : DataW Value} {nn : Nat} {out : List Nat} {S : List Ob} {ov : Value} {wr w' : World}
theorem blk_ne {w : World} {g g' : Nat} {cs cs' : Array Value} {t t' : TypeId} (h : Blk w g cs t) (h' : Blk w g' cs' t') (ht : t ≠ t') : g ≠ g' := fun e => by
  subst e; unfold Blk at h h'; rw [h] at h'; injection h' with h'; injection h' with _ h'; exact ht h'
theorem map_ne {w : World} {b n g : Nat} {D : DataW Value} {cs : Array Value} {t : TypeId} (h : w.ownsMap Try.prog 84 valR b n D) (h' : Blk w g cs t) : b ≠ g := fun e => by
  subst e
  obtain ⟨es, cl, hb, _⟩ := h
  unfold Blk at h'; rw [hb] at h'; cases h'
theorem hp_ne {w : World} {B M n g : Nat} {S : List Ob} {cs : Array Value} {t : TypeId} (h : Hp w B M n S) (h' : Blk w g cs t) : M ≠ g := fun e => by
  subst e
  obtain ⟨D, ⟨es, cl, hD, _⟩, _⟩ := h.map
  unfold Blk at h'; rw [hD] at h'; cases h'
theorem Pl.below (h : Pl l W mb hB hM Mb cb σ cv D nn out S ov wr) (hb : Below wr.heap.size wr w') : Pl l W mb hB hM Mb cb σ cv D nn out S ov w' :=
  { h with
    m := h.m.below hb
    c := fun i hi => (h.c i hi).below hb
    h := h.h.below hb
    by_ := own_at h.by_ (hb.block _ (by obtain ⟨es, cl, hh, _⟩ := h.by_; exact (Array.getElem?_eq_some_iff.1 hh).1))
    rows := fun d h1 h2 => by
      obtain ⟨a, c, e, hr⟩ := h.rows d h1 h2
      exact ⟨a, c, e, fun hne => by
        obtain ⟨g, cs, ha, hg, hc, hj⟩ := hr hne
        exact ⟨g, cs, ha, hg, (hb.block g (Array.getElem?_eq_some_iff.1 hc).1).trans hc, hj⟩⟩
    own := owns_below h.own hb
    big := Nat.le_trans h.big hb.size }
/-- Do writes the heap's map -/
theorem Pl.did (h : Pl l W mb hB hM Mb cb σ cv D nn out S ov wr) {S' : List Ob} (hH : Hp w' hB hM (nn + 1) S') (hg : wr.grownBy w' (some hM)) :
    Blk w' mb #[.pointer (some ⟨hB, 0, none⟩), cv, .map (some Mb), ov] 77 ∧ (∀ i, i < l.length → Blk w' (cb i) (clC (sp l i) i (decide (i ∈ out))) 80) ∧ w'.ownsMap Try.prog 84 valR Mb l.length D ∧
    (∀ d : Dd, IsI d.1 → WfO d.2 → ∃ a c, D.atKey (kd d) nilD = .held (.slice a (tau l σ d).length c) ∧ PtrRow w' W.heap.size a cb (tau l σ d)) ∧ w'.ownsRow W.heap.size 3 1 ov out.length (out.map encN) := by
  have bk : ∀ {g : Nat} {cs : Array Value} {t : TypeId}, Blk wr g cs t → Blk w' g cs t := fun hb => hb.grown hg (by simpa using Ne.symm (hp_ne h.h hb))
  refine ⟨bk h.m, fun i hi => bk (h.c i hi), own_at h.by_ (hg.block _ (by obtain ⟨es, cl, hh, _⟩ := h.by_; exact (Array.getElem?_eq_some_iff.1 hh).1) (by simpa using Ne.symm h.ne)), fun d h1 h2 => ?_, h.own.kept hg (.inr fun e => by have := (h.own.lt hM e).1; have := h.MW; omega)⟩
  obtain ⟨a, c, e, hr⟩ := h.rows d h1 h2
  exact ⟨a, c, e, fun hne => by
    obtain ⟨g, cs, ha, hg', hc, hj⟩ := hr hne
    exact ⟨g, cs, ha, hg', bk hc, hj⟩⟩
/-- next marks a call and lists it -/
theorem Pl.nexted (hm : Blk wr mb #[.pointer (some ⟨hB, 0, none⟩), cv, .map (some Mb), ov] 77) (hc : ∀ i, i < l.length → Blk wr (cb i) (clC (sp l i) i (decide (i ∈ out))) 80) (hby : wr.ownsMap Try.prog 84 valR Mb l.length D)
    (hrows : ∀ d : Dd, IsI d.1 → WfO d.2 → ∃ a c, D.atKey (kd d) nilD = .held (.slice a (tau l σ d).length c) ∧ PtrRow wr W.heap.size a cb (tau l σ d)) (hH : Hp wr hB hM nn S) (hn : nn ≤ out.length + 1)
    (inj : ∀ i j, i < l.length → j < l.length → cb i = cb j → i = j) (mW : mb < W.heap.size) (cW : ∀ i, i < l.length → cb i < W.heap.size) (hW : hB < W.heap.size) (MW : hM < W.heap.size) (bW : Mb < W.heap.size) (ne : hM ≠ Mb) (big : W.heap.size ≤ wr.heap.size)
    {x : Nat} (hx : x < l.length) {v : Value} (a1 : Blk w' mb #[.pointer (some ⟨hB, 0, none⟩), cv, .map (some Mb), v] 77) (a2 : Blk w' (cb x) (clC (sp l x) x true) 80)
    (a3 : w'.ownsRow W.heap.size 3 1 v (out.length + 1) (out.map encN ++ [encN x])) (a4 : Kp wr w' W.heap.size (fun b => b = mb ∨ b = cb x)) : Pl l W mb hB hM Mb cb σ cv D nn (out ++ [x]) S v w' := by
  have far : ∀ {g : Nat} {cs : Array Value} {t : TypeId}, Blk wr g cs t → t ≠ 77 → t ≠ 80 → g < W.heap.size → Blk w' g cs t := fun hb h1 h2 hg =>
    a4.Blk hb hg (fun e => e.elim (fun e => blk_ne hb hm h1 e) (fun e => blk_ne hb (hc x hx) h2 e))
  refine ⟨a1, fun i hi => ?_, inj, ?_, by simp; omega, ?_, fun d h1 h2 => ?_, by rw [List.length_append, List.length_singleton, List.map_append]; exact a3, mW, cW, hW, MW, bW, ne, Nat.le_trans big a4.size⟩
  · by_cases e : i = x
    · subst e; simpa using a2
    · have : decide (i ∈ out ++ [x]) = decide (i ∈ out) := by rw [decide_eq_decide]; simp [e]
      rw [this]
      exact a4.Blk (hc i hi) (cW i hi) (fun h => h.elim (fun h => blk_ne (hc i hi) hm (by decide) h) (fun h => e (inj i x hi hx h)))
  · obtain ⟨Dm, hD, hh⟩ := hH.map
    refine ⟨far hH.bB (by decide) (by decide) hW, ⟨Dm, ?_, hh⟩, hH.wf⟩
    obtain ⟨es, cl, hb, r⟩ := hD
    exact ⟨es, cl, (a4.blk hM MW (Array.getElem?_eq_some_iff.1 hb).1 (fun h => h.elim (fun h => hp_ne hH hm h) (fun h => hp_ne hH (hc x hx) h))).trans hb, r⟩
  · exact own_at hby (a4.blk Mb bW (by obtain ⟨es, cl, hb, _⟩ := hby; exact (Array.getElem?_eq_some_iff.1 hb).1) (fun h => h.elim (fun h => map_ne hby hm h) (fun h => map_ne hby (hc x hx) h)))
  · obtain ⟨a, c, e, hr⟩ := hrows d h1 h2
    exact ⟨a, c, e, fun hne => by
      obtain ⟨g, cs, ha, hg', hc', hj⟩ := hr hne
      exact ⟨g, cs, ha, hg', far hc' (by decide) (by decide) hg', hj⟩⟩
end
end Go.Proofs.Ythmkmjoeceghiaa
