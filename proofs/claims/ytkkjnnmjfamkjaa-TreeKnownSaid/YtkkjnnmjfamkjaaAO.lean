/- append to an own row: what the old row held still stands. -/
import Derived.Test.YtkkjnnmjfamkjaaBL
import Derived.ArgAppend
import Derived.Deep.RegionLaw
import Derived.Deep.RegionLawGrows
namespace Go.Proofs.Ytkkjnnmjfamkjaa
open Go.RowKit

section
variable {P : Program} {w : World}
theorem run_append_old (t ty : TypeId) (base : Nat) (e : TypeId) (i : TypeInfo) (z : Value) (size bytes : Nat) (ht : P.underlying t = some (.slice e)) (hi : P.info? e = some i) (hz : i.zero = some z)
    (hsize : i.size = size) (hby : i.bytes = bytes) (hzs : z.cells.size = size) (hsz : 0 < size)
    (q n cp : Nat) (xs : List Value) (hown : w.ownsRow base e size (.slice (some ⟨q, 0, none⟩) n cp) n xs)
    (ad : Addr) (m c : Nat) (news : List Value) (hl : news.length = m * size) (hnews : ∀ j u, news[j]? = some u → w.cell? (ad.add j) = some u) (h1 : ∀ u ∈ news, u.oneCell' = true)
    (hm : 0 < m) (h63 : n + m ≤ maxLen) (hbytes : (n + m) * bytes ≤ 140737488355328) (hbase : base ≤ w.heap.size) (H : Nat) (hH : w.heap.size = H) :
    ∃ g cap w', (Builtin.append_ #[t, t] ty #[.slice (some ⟨q, 0, none⟩) n cp, .slice (some ad) m c]).run P w = .ok (.slice (some ⟨g, 0, none⟩) (n + m) cap) w' ∧
      w'.ownsRow base e size (.slice (some ⟨g, 0, none⟩) (n + m) cap) (n + m) (xs ++ news) ∧ w.grownBy w' (some q) ∧ (q = g ∨ g = H) ∧ g < w'.heap.size ∧ (∀ j u, xs[j]? = some u → w'.cell? ⟨q, j, none⟩ = some u) := by
  obtain ⟨g, cap, w', hr, h2, h3, h4, h5⟩ := run_append_lies (P := P) w t ty base e i z size bytes ht hi hz hsize hby hzs hsz _ n xs hown ad m c news hl hnews h1 hm h63 hbytes hbase H hH
  have hq := (hown.lt q rfl).2
  have hx : ∀ j u, xs[j]? = some u → w.cell? ⟨q, j, none⟩ = some u := fun j u hj => by
    have hjl := (List.getElem?_eq_some_iff.1 hj).1
    have := hown.cellAt j (by rw [hown.1] at hjl; exact hjl)
    rw [hj] at this
    exact this
  refine ⟨g, cap, w', hr, h2, h3, h4.elim (fun e => Or.inl (by simpa [Value.ownBlock] using e)) Or.inr, h5, fun j u hj => ?_⟩
  have hjl : j < n * size := by have := (List.getElem?_eq_some_iff.1 hj).1; rwa [hown.1] at this
  by_cases hroom : n + m ≤ cp
  · obtain ⟨-, hh⟩ := hown
    rcases hh with ⟨hn, _⟩ | ⟨g0, cap0, cur, he, hb, hg0, hnc, hcm, hcs, htk⟩
    · cases hn
    · obtain ⟨rfl, rfl⟩ : q = g0 ∧ cp = cap0 := by injection he with a b c; injection a with a; injection a with a; exact ⟨a, c⟩
      have hsp : ∀ k, k < news.length → (w.cell? ⟨q, 0 + n * i.size + k, none⟩).isSome = true ∧ w.frozen? ⟨q, 0 + n * i.size + k, none⟩ = false := fun k hk => by
        have hlt : n * size + k < cur.size := by
          rw [hcs]
          have : (n + m) * size ≤ cp * size := Nat.mul_le_mul_right _ hroom
          rw [Nat.add_mul] at this
          omega
        refine ⟨?_, ?_⟩
        · simp [World.cell?, hg0, hsize, hlt]
        · simp [World.frozen?, hg0]
      have hr2 := run_append_room_cells (P := P) (w := w) t ty e i ht hi q 0 n cp ad m c news (by rw [hsize]; exact hl) hnews h1 hroom (fun k hk => (hsp k hk).1) (fun k hk => (hsp k hk).2)
      rw [hr] at hr2
      injection hr2 with e1 e2
      injection e1 with e3
      injection e3 with e3
      injection e3 with e3
      subst e3
      have := h2.cellAt j (by rw [Nat.add_mul]; omega)
      rw [this, List.getElem?_append_left (List.getElem?_eq_some_iff.1 hj).1]
      exact hj
  · obtain ⟨v', w'', hr2, _, hg2⟩ := run_append_arg_grows (P := P) (w := w) t ty e i z size bytes ht hi hz hsize hby hzs hsz ⟨q, 0, none⟩ n cp xs hown.1 (fun k u hk => by
      have hadd : (⟨q, 0, none⟩ : Addr).add k = ⟨q, k, none⟩ := by unfold Addr.add; split <;> simp_all
      rw [hadd]; exact hx k u hk) ad m c news hl hnews (by omega) h63 hbytes
    rw [hr] at hr2
    injection hr2 with e1 e2
    subst e2
    rw [World.cell?_of_block (w := w) (a := ⟨q, j, none⟩) (hg2.block q hq (by simp))]
    exact hx j u hj
/-- at a step of a drawn region -/
theorem step_append_old {ops : Array Oper} {o : Oper} {a : Act} {K : Act → World → Prop} {Q : Exit → Act → World → Prop} {E : Prop} (hgd : o.guard = none) (s x : Operand) (t : TypeId)
    (ho : o.op = .call { callee := .builtin .append, args := #[s, x], argTypes := #[t, t] })
    (base : Nat) (e : TypeId) (i : TypeInfo) (z : Value) (size bytes : Nat) (ht : P.underlying t = some (.slice e)) (hi : P.info? e = some i) (hz : i.zero = some z)
    (hsize : i.size = size) (hby : i.bytes = bytes) (hzs : z.cells.size = size) (hsz : 0 < size)
    (q n cp : Nat) (xs : List Value) (hs : a.eval s = .slice (some ⟨q, 0, none⟩) n cp) (hown : w.ownsRow base e size (.slice (some ⟨q, 0, none⟩) n cp) n xs)
    (ad : Addr) (m c : Nat) (news : List Value) (hx : a.eval x = .slice (some ad) m c) (hl : news.length = m * size) (hnews : ∀ j u, news[j]? = some u → w.cell? (ad.add j) = some u) (h1 : ∀ u ∈ news, u.oneCell' = true)
    (hm : 0 < m) (h63 : n + m ≤ maxLen) (hbytes : (n + m) * bytes ≤ 140737488355328) (hbase : base ≤ w.heap.size) (H : Nat) (hH : w.heap.size = H)
    (h : ∀ g cap w', w'.ownsRow base e size (.slice (some ⟨g, 0, none⟩) (n + m) cap) (n + m) (xs ++ news) → w.grownBy w' (some q) → (q = g ∨ g = H) → g < w'.heap.size → (∀ j u, xs[j]? = some u → w'.cell? ⟨q, j, none⟩ = some u) → K (a.put o.dst (.slice (some ⟨g, 0, none⟩) (n + m) cap)) w') :
    if Region.wanted o (yielded ops a.tmps) = true then Oper.wp P o a w K Q else E := by
  have hw : Region.wanted o (yielded ops a.tmps) = true := by simp [Region.wanted, hgd]
  rw [if_pos hw]
  obtain ⟨g, cap, w', hr, h2, h3, h4, h5, h6⟩ := run_append_old (P := P) (w := w) t o.type base e i z size bytes ht hi hz hsize hby hzs hsz q n cp xs hown ad m c news hl hnews h1 hm h63 hbytes hbase H hH
  unfold Oper.wp execOp
  simp only [ho, resolve, invoke, builtin, Sem.run_bind, Sem.run_pure, Result.andThen_ok, List.map_toArray, List.map_cons, List.map_nil, hs, hx, hr]
  exact h g cap w' h2 h3 h4 h5 h6
end
end Go.Proofs.Ytkkjnnmjfamkjaa
