/- search: where Line answers no order, none is found. -/
import Derived.Test.YthmkmjoeceghiaaRL
import Derived.Deep.DeepCutAuto
import Derived.Laws.AppendOwnNone
namespace Go.Proofs.Ythmkmjoeceghiaa
open Go.RowKit

attribute [local go_sem ↓] Go.wp_at_zero Go.wp_at_succ
set_option maxHeartbeats 400000 in
theorem copyints_any (xs : List Int) (a : Option Addr) (ka : Nat) (w : World) (hx : IsSl encI w a xs) (hnil : a = none → ka = 0) (hsz : xs.length ≤ 1000) :
    Calls Try.prog 66 #[.slice a xs.length ka] w fun e w' => ∃ v, e = .returned v ∧ w'.ownsRow w.heap.size 3 1 v xs.length (xs.map encI) ∧ Below w.heap.size w w' := by
  obtain ⟨i0, hi, hz0, hz1, hz2⟩ := info_parts info3
  have HX := Lib.hid hx
  cases a with
  | none =>
    obtain rfl := hnil rfl
    obtain rfl : xs = [] := by
      by_cases h : xs = []
      · exact h
      · obtain ⟨b, off, he, _⟩ := hx.2 h; cases he
    clear hnil hx
    go_enter Try.func66, Try.ntmps66
    go_wp2_with (at_builtin; refine wpList_append_own_none rfl _ _ 46 rfl w.heap.size 3 i0 1 Try.underlying46 hi _ 0 [] rfl (World.ownsRow_nil _ _ _ _) rfl ?_)
    go_ret
    exact ⟨_, rfl, World.ownsRow_nil _ _ _ _, Below.refl _ _⟩
  | some ad =>
    have hc : ∀ j u, (xs.map encI)[j]? = some u → w.cell? (ad.add j) = some u := by
      intro j u hj
      rw [List.getElem?_map] at hj
      cases hxj : xs[j]? with
      | none => rw [hxj] at hj; cases hj
      | some x =>
        rw [hxj] at hj
        obtain ⟨b, off, he, hcell⟩ := hx.2 (by intro e; rw [e] at hxj; simp at hxj)
        cases he
        have hplain : (⟨b, off, none⟩ : Addr).add j = ⟨b, off + j, none⟩ := by unfold Addr.add; split <;> simp_all
        rw [hplain, hcell j x hxj]; exact hj
    have HC := Lib.hid hc
    clear hnil hx hc
    go_enter Try.func66, Try.ntmps66
    go_wp2_with (at_builtin; refine wpList_append_own _ rfl _ _ 46 rfl w.heap.size 3 i0 _ 1 8 Try.underlying46 hi hz0 hz1 hz2 rfl (by decide) _ 0 [] rfl (World.ownsRow_nil _ _ _ _) ad xs.length ka (xs.map encI) rfl (by simp) HC.out (by simp [Value.oneCell', encI]) (by unfold maxLen; omega) (by omega) (Nat.le_refl _) ?_; intro v' w1 hown' hgrow _)
    go_ret
    exact ⟨_, rfl, by simpa using hown', (Below.refl _ _).grown hgrow (Nat.le_refl _) (fun g e => by cases e)⟩
/-- an append behind a guard that holds -/
theorem wpList_append_g {P : Program} (w : World) {ops : Array Oper} {rest : List Oper} {o : Oper} {a : Act} {Q : Exit → Act → World → Prop} (hwt : Region.wanted o (yielded ops a.tmps) = true) (s x : Operand) (t : TypeId)
    (ho : o.op = .call { callee := .builtin .append, args := #[s, x], argTypes := #[t, t] })
    (base : Nat) (e : TypeId) (i : TypeInfo) (z : Value) (size bytes : Nat) (ht : P.underlying t = some (.slice e)) (hi : P.info? e = some i) (hz : i.zero = some z)
    (hsize : i.size = size) (hby : i.bytes = bytes) (hzs : z.cells.size = size) (hsz : 0 < size)
    (v : Value) (n : Nat) (xs : List Value) (hs : a.eval s = v) (hown : w.ownsRow base e size v n xs)
    (ad : Addr) (m c : Nat) (news : List Value) (hx : a.eval x = .slice (some ad) m c) (hl : news.length = m * size) (hnews : ∀ j u, news[j]? = some u → w.cell? (ad.add j) = some u) (h1 : ∀ u ∈ news, u.oneCell' = true)
    (h63 : n + m ≤ maxLen) (hbytes : (n + m) * bytes ≤ 140737488355328) (hbase : base ≤ w.heap.size)
    (h : ∀ v' w', w'.ownsRow base e size v' (n + m) (xs ++ news) → w.grownBy w' v.ownBlock → wpList P ops Q rest (a.put o.dst v') w') : wpList P ops Q (o :: rest) a w :=
  wpList_step fun _ hK => by
    rw [if_pos hwt]
    exact wp_append_own w s x t ho base e i z size bytes ht hi hz hsize hby hzs hsz v n xs hs hown ad m c news hx hl hnews h1 h63 hbytes hbase fun v' w' h2 h3 _ => hK _ _ (h v' w' h2 h3)
/-- where Line finds no order, there is none -/
theorem no_order {l : List Sp} (h0 : chk l = 0) (hT : lineT l = none) (σ : List Nat) : holdsB l (ints σ) = false := by
  rw [Bool.eq_false_iff]
  intro h
  rw [holds_yes _ h0] at h
  obtain ⟨r, hr, _⟩ := lineT_some (chk_zero h0).2 ((ord_goes σ [] []).1 h)
  rw [hT] at hr; cases hr
def NoIs (w : World) (e : Ending) (w' : World) : Prop := e = .returned (.bool false) ∧ Below w.heap.size w w'
theorem take_map_succ' {l : List Sp} {r : List Nat} {i m : Nat} (h : r[i]? = some m) : ((r.take (i + 1)).map fun k => (sp l k).1) = ((r.take i).map fun k => (sp l k).1) ++ [(sp l m).1] := by
  rw [take_succ h, List.map_append]; rfl
theorem mem_take_succ {σ : List Nat} {i m k : Nat} (h : σ[i]? = some m) : decide (k ∈ σ.take (i + 1)) = (decide (k ∈ σ.take i) || decide (m = k)) := by
  rw [take_succ h, Bool.eq_iff_iff]
  simp only [decide_eq_true_eq, List.mem_append, List.mem_singleton, Bool.or_eq_true]
  exact ⟨fun h => h.imp id Eq.symm, fun h => h.imp id Eq.symm⟩
set_option maxRecDepth 100000 in
set_option maxHeartbeats 4000000 in
theorem search_step (l : List Sp) (a : Option Addr) (cap : Nat) (h0 : chk l = 0) (hT : lineT l = none) (hl : l.length ≤ 6) (hw : WfS l) (σ : List Nat) (c : Option Addr) (kc : Nat) (w : World) (hn : σ.Nodup) (hlt : ∀ j ∈ σ, j < l.length)
    (hI : IsSpans w a l) (hO : IsSl encI w c (ints σ)) (hnil : c = none → kc = 0)
    (IH : ∀ (k : Nat) (c' : Option Addr) (kc' : Nat) (w' : World), k < l.length → k ∉ σ → IsSpans w' a l → IsSl encI w' c' (ints (σ ++ [k])) → (c' = none → kc' = 0) → Calls Try.prog 35 #[.slice a l.length cap, .slice c' (σ.length + 1) kc'] w' (NoIs w')) :
    Calls Try.prog 35 #[.slice a l.length cap, .slice c σ.length kc] w (NoIs w) := by
  obtain ⟨i0, hi, hz0, hz1, hz2⟩ := info_parts info32
  obtain ⟨j0, hj, hy0, hy1, hy2⟩ := info_parts info3
  have HI := Lib.hid hI
  have HO := Lib.hid hO
  have HS := Lib.hid hw
  have HWF := Lib.hid (show ∀ i, i < l.length → WfO (sp l i).1.2 from fun i hi => by
    rw [sp_at (List.getElem?_eq_getElem hi)]; exact hw _ (List.getElem_mem hi))
  have HL := Lib.hid hlt
  have HNL := Lib.hid hnil
  have HH := Lib.hid (no_order h0 hT σ)
  have NO := Lib.hid (ints_len σ)
  have hsl : σ.length ≤ 6 := by have := nodup_len _ _ hn hlt; omega
  have IH' := Lib.hid IH
  obtain ⟨r, hr⟩ : ∃ r, r = σ.length := ⟨_, rfl⟩
  rw [← hr] at hsl
  have HR := Lib.hid hr
  rw [← hr]
  clear hI hO hw hlt hnil h0 hT hn IH hr
  go_enter Try.func35, Try.ntmps35
  go_wp2_with fail
  refine (holds_at l (ints σ) false a c l.length r cap kc w rfl (by rw [NO.out, HR.out]) HH.out (by omega) HS.out HI.out HO.out).mono ?_
  rintro e w1 ⟨rfl, hb⟩
  have B1 := Lib.hid hb
  have I1 := Lib.hid (HI.out.below hb)
  have O1 := Lib.hid (HO.out.below hb)
  clear hb
  go_wp2_with fail
  generalize hW : w1 = W
  rw [hW] at B1 I1 O1
  clear hW
  go_loopw [5, 6] (fun dv iv wr => ∃ i : Nat, i ≤ r ∧ iv = .int .i64 i ∧ wr.ownsRow W.heap.size 32 4 dv i (((σ.take i).map fun k => (sp l k).1).flatMap ddCells) ∧ Below W.heap.size W wr) (fun _ iv _ => r - (intOf iv).toNat)
  case atStart => exact ⟨0, Nat.zero_le _, rfl, World.ownsRow_nil _ _ _ _, Below.refl _ _⟩
  case round =>
    obtain ⟨i, hi', rfl, hO, hB'⟩ := hrel
    have OU := Lib.hid hO
    have BB := Lib.hid hB'
    obtain ⟨da, dk, rfl, -, -⟩ := owns_form hO
    clear hO hB'
    by_cases hlt : i < r
    · obtain ⟨m, hm⟩ : ∃ m, σ[i]? = some m := ⟨_, List.getElem?_eq_getElem (by rw [← HR.out]; exact hlt)⟩
      have hml : m < l.length := HL.out m (List.mem_of_getElem? hm)
      obtain ⟨bo, oo, x, rfl, hx, ce⟩ := (O1.out.below BB.out).at (k := i) (by rw [NO.out, ← HR.out]; exact hlt)
      obtain rfl : x = (m : Int) := by
        unfold ints at hx
        rw [List.getElem?_map, hm] at hx
        exact (Option.some.inj hx).symm
      obtain ⟨g, off, rfl⟩ := I1.out.form (by omega)
      obtain ⟨d0, d1, d2, d3, -, -⟩ := (I1.out.below BB.out).at hml
      have HX := Lib.hid (take_map_succ' (l := l) hm)
      have i1 : (0 : Int) ≤ (i : Int) := by omega
      have i2 : (i : Int) < (r : Int) := by omega
      have m0 : (0 : Int) ≤ (m : Int) := by omega
      have m1 : (m : Int) < (l.length : Int) := by omega
      have hbs := BB.out.size
      have O2 := Lib.hid (OU.out.alloc (.cells #[.int .i64 (sp l m).1.1, .int .i64 (sp l m).1.2.1, .int .i64 (sp l m).1.2.2.1, .int .i64 (sp l m).1.2.2.2] 32))
      clear hm hx
      go_wp2_with (at_builtin; refine wpList_append_own _ rfl _ _ 22 rfl W.heap.size 32 i0 _ 4 32 Try.underlying22 hi hz0 hz1 hz2 rfl (by omega) _ _ _ rfl O2.out ⟨wr.heap.size, 0, none⟩ 1 1 (ddCells (sp l m).1) rfl rfl (World.news_of_block (cs := #[.int .i64 (sp l m).1.1, .int .i64 (sp l m).1.2.1, .int .i64 (sp l m).1.2.2.1, .int .i64 (sp l m).1.2.2.2]) (t := 32) (fr := (0, 0)) (by simpa using heap_alloc_new wr _)) (by simp [Value.oneCell', ddCells]) (by unfold maxLen; omega) (by omega) (by simp; omega) ?_; intro v' w2 hown' hgrow _)
      have B2 := Lib.hid ((BB.out.alloc BB.out.size _).grown hgrow (by simp; omega) (fun g e => (OU.out.lt g e).1))
      have ON := Lib.hid (show w2.ownsRow W.heap.size 32 4 v' (i + 1) (((σ.take (i + 1)).map fun k => (sp l k).1).flatMap ddCells) from by
        rw [HX.out, List.flatMap_append]; simpa using hown')
      clear hown' hgrow d0 d1 d2 d3 ce
      go_roundw
      case rel => exact ⟨i + 1, by omega, by go_num, ON.out, B2.out⟩
      case measure => simp [intOf]; omega
    · obtain rfl : i = r := by omega
      obtain ⟨ds, hds⟩ : ∃ ds, ds = ((σ.take i).map fun k => (sp l k).1) := ⟨_, rfl⟩
      have hdl : ds.length = i := by rw [hds, List.length_map, List.length_take, HR.out]; omega
      have WD := Lib.hid (show WfD ds from fun d hd => by
        rw [hds] at hd
        obtain ⟨k, hk, rfl⟩ := List.mem_map.1 hd
        exact HWF.out k (HL.out k (List.mem_of_mem_take hk)))
      rw [← hds] at OU
      have ID := Lib.hid (isDeeds_of_owns OU.out hdl)
      have HDL := Lib.hid hdl
      clear hds hdl
      go_wp2_with fail
      have hpl := play_any ds da dk wr (by rw [HDL.out]; unfold maxLen; omega) WD.out ID.out
      rw [HDL.out] at hpl
      obtain ⟨p1, hp1⟩ : ∃ p, p = (playR ds).1 := ⟨_, rfl⟩
      obtain ⟨p2, hp2⟩ : ∃ p, p = (playR ds).2 := ⟨_, rfl⟩
      rw [← hp1, ← hp2] at hpl
      clear hp1 hp2
      refine hpl.mono ?_
      rintro e w2 ⟨rfl, hb⟩
      have B2 := Lib.hid (on2 B1.out (on2 BB.out hb))
      have I2 := Lib.hid (I1.out.below (on2 BB.out hb))
      have O2 := Lib.hid (O1.out.below (on2 BB.out hb))
      clear hb hpl
      by_cases h2 : p2 = 0
      · have e2 : (p2 != 0) = false := by simpa using h2
        clear h2
        go_wp2_with fail
        generalize w2 = X at *
        go_loopw [9] (fun kv wr => ∃ k : Nat, k ≤ l.length ∧ kv = .int .i64 k ∧ Below X.heap.size X wr) (fun kv _ => l.length - (intOf kv).toNat)
        case atStart => exact ⟨0, Nat.zero_le _, rfl, Below.refl _ _⟩
        case round =>
          obtain ⟨k, hkl, rfl, hB'⟩ := hrel
          have B3 := Lib.hid hB'
          clear hB'
          by_cases hlt : k < l.length
          · have k0 : (0 : Int) ≤ (k : Int) := by omega
            have k1 : (k : Int) < (l.length : Int) := by omega
            go_wp2_with fail
            generalize wr = Y at *
            go_loopw [10, 11] (fun sv jv wr => ∃ j : Nat, j ≤ i ∧ jv = .int .i64 j ∧ sv = .bool (decide (k ∈ σ.take j)) ∧ Below Y.heap.size Y wr) (fun _ jv _ => i - (intOf jv).toNat)
            case atStart => exact ⟨0, Nat.zero_le _, rfl, rfl, Below.refl _ _⟩
            case round =>
              obtain ⟨j, hji, rfl, rfl, hB'⟩ := hrel
              have B4 := Lib.hid hB'
              clear hB'
              by_cases hlt2 : j < i
              · obtain ⟨m, hm⟩ : ∃ m, σ[j]? = some m := ⟨_, List.getElem?_eq_getElem (by rw [← HR.out]; exact hlt2)⟩
                obtain ⟨bo, oo, x, rfl, hx, ce⟩ := (O2.out.below (on2 B3.out B4.out)).at (k := j) (by rw [NO.out, ← HR.out]; exact hlt2)
                obtain rfl : x = (m : Int) := by
                  unfold ints at hx
                  rw [List.getElem?_map, hm] at hx
                  exact (Option.some.inj hx).symm
                have MT := Lib.hid (mem_take_succ (k := k) hm)
                obtain ⟨s, hs⟩ : ∃ s, s = decide (k ∈ σ.take j) := ⟨_, rfl⟩
                rw [← hs] at MT ⊢
                have j0' : (0 : Int) ≤ (j : Int) := by omega
                have j1 : (j : Int) < (i : Int) := by omega
                clear hm hx hs
                cases s with
                | true =>
                  go_wp2_with fail
                  go_roundw
                  case rel => exact ⟨j + 1, by omega, by go_num, by rw [MT.out]; rfl, B4.out⟩
                  case measure => simp [intOf]; omega
                | false =>
                  by_cases hmk : m = k
                  · have q1 : ((m : Int) == (k : Int)) = true := by simp [hmk]
                    have q2 : (m == k) = true := by simp [hmk]
                    have MR := Lib.hid (MT.out.trans (show (false || decide (m = k)) = true by simp [hmk]))
                    clear hmk MT
                    go_wp2_with fail
                    go_roundw
                    case rel => exact ⟨j + 1, by omega, by go_num, by rw [MR.out], B4.out⟩
                    case measure => simp [intOf]; omega
                  · have q1 : ((m : Int) == (k : Int)) = false := by rw [beq_eq_false_iff_ne]; omega
                    have q2 : (m == k) = false := by simp [hmk]
                    have MR := Lib.hid (MT.out.trans (show (false || decide (m = k)) = false by simp [hmk]))
                    clear hmk MT
                    go_wp2_with fail
                    go_roundw
                    case rel => exact ⟨j + 1, by omega, by go_num, by rw [MR.out], B4.out⟩
                    case measure => simp [intOf]; omega
              · obtain rfl : j = i := by omega
                obtain ⟨s, hs⟩ : ∃ s, s = decide (k ∈ σ.take j) := ⟨_, rfl⟩
                rw [← hs]
                have HSS := Lib.hid (show s = decide (k ∈ σ) by rw [hs, HR.out, List.take_length])
                have B5 := Lib.hid (on2 B3.out B4.out)
                clear hs
                cases s with
                | true =>
                  go_wp2_with fail
                  go_roundw
                  case rel => exact ⟨k + 1, by omega, by go_num, B5.out⟩
                  case measure => simp [intOf]; omega
                | false =>
                  have hkσ : k ∉ σ := by simpa using HSS.out.symm
                  have hco := copyints_any (ints σ) c kc wr (O2.out.below B5.out) HNL.out (by rw [NO.out, ← HR.out]; omega)
                  rw [NO.out, ← HR.out] at hco
                  have KS := Lib.hid hkσ
                  clear hkσ
                  go_wp2_with fail
                  refine hco.mono ?_
                  rintro e w5 ⟨v, rfl, hv, hb⟩
                  have V5 := Lib.hid hv
                  have B6 := Lib.hid (on2 B5.out hb)
                  have hbs := hb.size
                  clear hv hb hco
                  go_wp2_with (at_builtin; refine wpList_append_g _ (by rfl) _ _ 46 rfl wr.heap.size 3 j0 _ 1 8 Try.underlying46 hj hy0 hy1 hy2 rfl (by decide) _ j _ rfl (V5.out.alloc _) ⟨w5.heap.size, 0, none⟩ 1 1 [encN k] rfl rfl (World.news_of_block (cs := #[encN k]) (t := 3) (fr := (0, 0)) (by simpa using heap_alloc_new w5 _)) (by simp [Value.oneCell']) (by unfold maxLen; omega) (by omega) (by simp; omega) ?_; intro v2 w6 p6 g6)
                  have B7 := Lib.hid ((B6.out.alloc B6.out.size _).grown g6 (by have := B6.out.size; simp; omega) (fun g e => by have := (V5.out.lt g e).1; have := B5.out.size; omega))
                  have hsr : (ints (σ ++ [k])).length = j + 1 := by rw [ints_len, List.length_append, ← HR.out]; rfl
                  obtain ⟨c2, k2, rfl, hs2, hn2, -⟩ := isSl_of_owns (xs := ints (σ ++ [k])) (enc := encI) (w := w6) (base := wr.heap.size) (e := 3) (v := v2) (by
                    rw [hsr]; simpa [ints] using p6)
                  have ih := IH'.out k c2 k2 w6 (by omega) KS.out (I2.out.below B7.out) hs2 (fun e => by
                    subst e
                    rcases p6.2 with ⟨h1, _⟩ | ⟨g, cap', cur, h1, _⟩
                    · injection h1
                    · cases h1)
                  rw [← HR.out] at ih
                  rw [hsr]
                  clear p6 g6 hs2 hn2 hsr
                  go_wp2_with fail
                  refine ih.mono ?_
                  rintro e w7 ⟨rfl, hb⟩
                  have B8 := Lib.hid (on2 B7.out hb)
                  clear hb ih
                  go_wp2_with fail
                  go_roundw
                  case rel => exact ⟨k + 1, by omega, by go_num, B8.out⟩
                  case measure => simp [intOf]; omega
          · obtain rfl : k = l.length := by omega
            go_wp2_with fail
            go_ret
            exact ⟨rfl, on2 B2.out B3.out⟩
      · have e2 : (p2 != 0) = true := by simpa using h2
        clear h2
        go_wp2_with fail
        go_ret
        exact ⟨rfl, B2.out⟩
theorem search_any (l : List Sp) (a : Option Addr) (cap : Nat) (h0 : chk l = 0) (hT : lineT l = none) (hl : l.length ≤ 6) (hw : WfS l) : ∀ (m : Nat) (σ : List Nat) (c : Option Addr) (kc : Nat) (w : World), σ.length + m = l.length → σ.Nodup → (∀ j ∈ σ, j < l.length) →
    IsSpans w a l → IsSl encI w c (ints σ) → (c = none → kc = 0) → Calls Try.prog 35 #[.slice a l.length cap, .slice c σ.length kc] w (NoIs w)
  | 0, σ, c, kc, w, hm, hn, hlt, hI, hO, hnil => search_step l a cap h0 hT hl hw σ c kc w hn hlt hI hO hnil (fun k c' kc' w' hk hkσ _ _ _ => by
      have := nodup_len l.length (σ ++ [k]) (List.nodup_append.2 ⟨hn, by simp, fun x hx y hy => by
        obtain rfl : y = k := by simpa using hy
        rintro rfl; exact hkσ hx⟩) (fun j hj => by
        rcases List.mem_append.1 hj with h1 | h1
        · exact hlt j h1
        · obtain rfl : j = k := by simpa using h1
          exact hk)
      simp at this; omega)
  | m + 1, σ, c, kc, w, hm, hn, hlt, hI, hO, hnil => search_step l a cap h0 hT hl hw σ c kc w hn hlt hI hO hnil (fun k c' kc' w' hk hkσ hI' hO' hnil' => by
      have h1 := search_any l a cap h0 hT hl hw m (σ ++ [k]) c' kc' w' (by rw [List.length_append, List.length_singleton]; omega) (List.nodup_append.2 ⟨hn, by simp, fun x hx y hy => by
        obtain rfl : y = k := by simpa using hy
        rintro rfl; exact hkσ hx⟩) (fun j hj => by
        rcases List.mem_append.1 hj with h1 | h1
        · exact hlt j h1
        · obtain rfl : j = k := by simpa using h1
          exact hk) hI' hO' hnil'
      rwa [List.length_append, List.length_singleton] at h1)
end Go.Proofs.Ythmkmjoeceghiaa
