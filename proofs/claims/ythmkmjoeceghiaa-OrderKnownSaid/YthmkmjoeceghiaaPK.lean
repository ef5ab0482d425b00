/- The program's order of calls: the bads ahead of a give. -/
import Derived.Test.YthmkmjoeceghiaaPJ
namespace Go.Proofs.Ythmkmjoeceghiaa
open Go.RowKit

attribute [local go_sem ↓] Go.wp_at_zero Go.wp_at_succ
/-- the blocks that a line of calls writes -/
def Own2 (l : List Sp) (mb : Nat) (cb : Nat → Nat) (b : Nat) : Prop := b = mb ∨ ∃ i, i < l.length ∧ b = cb i
def badQ (l : List Sp) (out : List Nat) (m : Nat) (i : Nat) : Bool := decide (i ∉ out) && decide (0 ≤ (sp l i).2.2) && decide ((sp l i).2.1 ≤ (sp l m).2.2)
/-- the bads that are done ahead of m's give -/
def badsOf (l : List Sp) (σ out : List Nat) (m : Nat) : List Nat := (tau l σ (4, (sp l m).1.2)).filter (badQ l out m)
set_option maxRecDepth 100000 in
set_option maxHeartbeats 4000000 in
theorem bads_any (l : List Sp) (W : World) (mb hB hM Mb : Nat) (cb : Nat → Nat) (σ : List Nat) (cv : Value) (D : DataW Value) (nn : Nat) (out : List Nat) (S : List Ob) (ov : Value) (w : World) (m : Nat) (hm : m < l.length)
    (hσ : ∀ i ∈ σ, i < l.length) (hσn : σ.Nodup) (hσl : σ.length ≤ 256) (hol : out.length ≤ 256) (hwf : WfO (sp l m).1.2) (P0 : Pl l W mb hB hM Mb cb σ cv D nn out S ov w) :
    Calls Try.prog 57 #[.pointer (some ⟨mb, 0, none⟩), .pointer (some ⟨cb m, 0, none⟩)] w fun e w' => e = .returned (.tuple #[]) ∧ ∃ ov', Pl l W mb hB hM Mb cb σ cv D nn (out ++ badsOf l σ out m) S ov' w' ∧ Kp w w' W.heap.size (Own2 l mb cb) := by
  have P := Lib.hid P0
  have SG := Lib.hid hσ
  have SN := Lib.hid hσn
  have WF := Lib.hid hwf
  obtain ⟨ra, rc, hat, hrow⟩ := P0.rows (4, (sp l m).1.2) (show IsI 4 from ⟨by decide, by decide⟩) hwf
  have hlk := fun (n : Nat) => by_look_eq (w := w.drewN n) (own_at P0.by_ rfl) (d := (4, (sp l m).1.2)) (show IsI 4 from ⟨by decide, by decide⟩) hwf hat
  have m2 := P0.m.cell (i := 2) rfl
  have d1 := (P0.c m hm).cell (i := 1) rfl
  have d2 := (P0.c m hm).cell (i := 2) rfl
  have d3 := (P0.c m hm).cell (i := 3) rfl
  simp at m2 d1 d2 d3
  have ROW := Lib.hid hrow
  clear P0 hσ hσn hwf hat hrow
  go_enter Try.func57, Try.ntmps57
  go_wp2_with fail
  go_quiet (fail)
  clear hlk m2 d1 d2 d3
  have hbq : Below w.heap.size w (w.drewN nq) := below_drewN (Below.refl _ _) nq
  have PQ := Lib.hid (P.out.below hbq)
  have KQ := Lib.hid (show Kp w (w.drewN nq) W.heap.size (Own2 l mb cb) from Kp.of_below hbq)
  replace ROW := Lib.hid (show PtrRow (w.drewN nq) W.heap.size ra cb (tau l σ (4, (sp l m).1.2)) from ROW.out)
  generalize w.drewN nq = wy at *
  clear hbq
  obtain ⟨τ, hτ⟩ : ∃ τ, τ = tau l σ (4, (sp l m).1.2) := ⟨_, rfl⟩
  have ST := Lib.hid (show ∀ i ∈ τ, i < l.length from fun i hi => SG.out i (by rw [hτ] at hi; exact (List.mem_filter.1 hi).1))
  have SD := Lib.hid (show τ.Nodup from by rw [hτ]; exact SN.out.filter _)
  have BO := Lib.hid (show badsOf l σ out m = τ.filter (badQ l out m) from by unfold badsOf; rw [hτ])
  have hτl : τ.length ≤ 256 := by rw [hτ]; unfold tau; have := List.length_filter_le (fun i => decide ((sp l i).1 = (4, (sp l m).1.2))) σ; omega
  rw [← hτ] at ROW ⊢
  clear hτ
  go_wp2_with fail
  go_loopw [19] (fun jv wr => ∃ (j : Nat) (ov' : Value), j ≤ τ.length ∧ jv = .int .i64 j ∧ Pl l W mb hB hM Mb cb σ cv D nn (out ++ (τ.take j).filter (badQ l out m)) S ov' wr ∧ Kp wy wr W.heap.size (Own2 l mb cb)) (fun jv _ => τ.length - (intOf jv).toNat)
  case atStart => exact ⟨0, ov, Nat.zero_le _, rfl, by simpa using PQ.out, Kp.refl _ _ _⟩
  case round =>
    obtain ⟨j, ov', hj, rfl, hP, hK⟩ := hrel
    have PR := Lib.hid hP
    have KR := Lib.hid hK
    clear hP hK
    by_cases hlt : j < τ.length
    · obtain ⟨i, hi⟩ : ∃ i, τ[j]? = some i := ⟨_, List.getElem?_eq_getElem hlt⟩
      have hil := ST.out i (List.mem_of_getElem? hi)
      obtain ⟨g, cs, rfl, hg, hc, hcs⟩ := ROW.out (by intro e; rw [e] at hlt; simp at hlt)
      have hgc : Blk wr g cs 78 := KR.out.Blk (show Blk wy g cs 78 from hc) hg (fun h => h.elim (fun h => blk_ne (show Blk wy g cs 78 from hc) PQ.out.m (by decide) h) (fun ⟨i', h1, h2⟩ => blk_ne (show Blk wy g cs 78 from hc) (PQ.out.c i' h1) (by decide) h2))
      have e1 := hgc.cell (hcs j i hi)
      have e2 := (PR.out.c i hil).cell (i := 7) rfl
      have e3 := (PR.out.c i hil).cell (i := 4) rfl
      have e5 := (PR.out.c i hil).cell (i := 5) rfl
      have e4 := (PR.out.c m hm).cell (i := 5) rfl
      have hnj : i ∉ τ.take j := fun hmem => by
        obtain ⟨p, hp, he⟩ := List.getElem_of_mem hmem
        have hpj : p < j := by simp at hp; omega
        have h1 : τ[p]? = some i := by rw [← he, List.getElem_take]; exact List.getElem?_eq_getElem (by omega)
        have := (List.getElem?_inj (by omega) SD.out).1 (h1.trans hi.symm)
        omega
      have hdone : decide (i ∈ out ++ (τ.take j).filter (badQ l out m)) = decide (i ∈ out) := by
        rw [decide_eq_decide, List.mem_append]
        exact ⟨fun h => h.resolve_right (fun h => hnj (List.mem_filter.1 h).1), .inl⟩
      rw [hdone] at e2
      have TK := Lib.hid (show ∀ b, badQ l out m i = b → (τ.take (j + 1)).filter (badQ l out m) = (τ.take j).filter (badQ l out m) ++ (if b = true then [i] else []) from fun b hb => by
        rw [take_succ hi, List.filter_append, List.filter_cons, hb]; cases b <;> simp)
      have HQ := Lib.hid (show badQ l out m i = true ↔ i ∉ out ∧ 0 ≤ (sp l i).2.2 ∧ (sp l i).2.1 ≤ (sp l m).2.2 by simp [badQ, and_assoc])
      have hlen : (out ++ (τ.take j).filter (badQ l out m)).length ≤ 1000 := by
        have := List.length_filter_le (badQ l out m) (τ.take j)
        have := List.length_take_le j τ
        rw [List.length_append]; omega
      have j0 : (0 : Int) ≤ (j : Int) := by omega
      have j1 : (j : Int) < (τ.length : Int) := by omega
      clear hi hc hcs hdone hnj hgc
      by_cases hio : i ∈ out
      · rw [decide_eq_true hio] at e2
        have NX := Lib.hid (TK.out false (by rw [Bool.eq_false_iff, ne_eq, HQ.out]; exact fun h => h.1 hio))
        clear hio
        go_wp2_with fail
        go_quiet (fail)
        have hbq : Below wr.heap.size wr (wr.drewN nq) := below_drewN (Below.refl _ _) nq
        have P2 := Lib.hid (PR.out.below hbq)
        have K2 := Lib.hid (KR.out.trans (Kp.of_below hbq))
        clear hbq e1 e2 e3 e4 e5
        go_wp2_with fail
        go_roundw
        case rel => exact ⟨j + 1, ov', by omega, by go_num, by rw [NX.out, if_neg (by decide), List.append_nil]; exact P2.out, K2.out⟩
        case measure => simp [intOf]; omega
      · rw [decide_eq_false hio] at e2
        by_cases ht : 0 ≤ (sp l i).2.2
        · by_cases hft : (sp l i).2.1 ≤ (sp l m).2.2
          · have NX := Lib.hid (TK.out true (HQ.out.2 ⟨hio, ht, hft⟩))
            clear hio
            go_wp2_with fail
            go_quiet (fail)
            have hbq : Below wr.heap.size wr (wr.drewN nq) := below_drewN (Below.refl _ _) nq
            have P2 := Lib.hid (PR.out.below hbq)
            have K2 := Lib.hid (KR.out.trans (Kp.of_below hbq))
            clear hbq e1 e2 e3 e4 e5
            generalize wr.drewN nq = w3 at *
            go_wp2_with fail
            refine (next_any mb (cb i) W.heap.size (.pointer (some ⟨hB, 0, none⟩)) cv (.map (some Mb)) ov' (sp l i) i _ _ _ w3 P2.out.m (P2.out.c i hil) P2.out.own hlen (fun e => blk_ne P2.out.m (P2.out.c i hil) (by decide) e) P2.out.mW (P2.out.cW i hil) P2.out.big).mono ?_
            rintro e w4 ⟨rfl, ov2, a1, a2, a3, a4⟩
            have P4 := Lib.hid (Pl.nexted P2.out.m P2.out.c P2.out.by_ P2.out.rows P2.out.h (Nat.le_succ_of_le P2.out.hn) P2.out.inj P2.out.mW P2.out.cW P2.out.hW P2.out.MW P2.out.bW P2.out.ne P2.out.big hil a1 a2 a3 a4)
            have K4 := Lib.hid (K2.out.trans (a4.mono (Nat.le_refl _) (fun b h => h.elim .inl (fun h => .inr ⟨i, hil, h⟩))))
            clear a1 a2 a3 a4
            go_wp2_with fail
            go_roundw
            case rel => exact ⟨j + 1, ov2, by omega, by go_num, by rw [NX.out, if_pos (by trivial), ← List.append_assoc]; exact P4.out, K4.out⟩
            case measure => simp [intOf]; omega
          · have NX := Lib.hid (TK.out false (by rw [Bool.eq_false_iff, ne_eq, HQ.out]; exact fun h => hft h.2.2))
            have hft' : decide ((sp l i).2.1 ≤ (sp l m).2.2) = false := by simpa using hft
            clear hio hft
            go_wp2_with fail
            go_quiet (fail)
            have hbq : Below wr.heap.size wr (wr.drewN nq) := below_drewN (Below.refl _ _) nq
            have P2 := Lib.hid (PR.out.below hbq)
            have K2 := Lib.hid (KR.out.trans (Kp.of_below hbq))
            clear hbq e1 e2 e3 e4 e5
            go_wp2_with fail
            go_roundw
            case rel => exact ⟨j + 1, ov', by omega, by go_num, by rw [NX.out, if_neg (by decide), List.append_nil]; exact P2.out, K2.out⟩
            case measure => simp [intOf]; omega
        · have NX := Lib.hid (TK.out false (by rw [Bool.eq_false_iff, ne_eq, HQ.out]; exact fun h => ht h.2.1))
          have ht' : decide (0 ≤ (sp l i).2.2) = false := by simpa using ht
          clear hio ht
          go_wp2_with fail
          go_quiet (fail)
          have hbq : Below wr.heap.size wr (wr.drewN nq) := below_drewN (Below.refl _ _) nq
          have P2 := Lib.hid (PR.out.below hbq)
          have K2 := Lib.hid (KR.out.trans (Kp.of_below hbq))
          clear hbq e1 e2 e3 e4 e5
          go_wp2_with fail
          go_roundw
          case rel => exact ⟨j + 1, ov', by omega, by go_num, by rw [NX.out, if_neg (by decide), List.append_nil]; exact P2.out, K2.out⟩
          case measure => simp [intOf]; omega
    · obtain rfl : j = τ.length := by omega
      have P9 := Lib.hid (show Pl l W mb hB hM Mb cb σ cv D nn (out ++ badsOf l σ out m) S ov' wr by rw [BO.out]; have := PR.out; rwa [List.take_length] at this)
      go_wp2_with fail
      go_end0
      exact ⟨rfl, ov', P9.out, KQ.out.trans KR.out⟩
end Go.Proofs.Ythmkmjoeceghiaa
