/- TapeScripts. -/
import Derived.Test.YtdjhkiahpidldaaG
import Derived.Laws.OwnMore
import Derived.Test.YtdjhkiahpidldaaO
namespace Go.Proofs.Ytdjhkiahpidldaa
open Go.RowKit

attribute [local go_sem ↓] Go.wp_at_zero Go.wp_at_succ
theorem own_blk {w : World} {base : Nat} {e t : TypeId} {size n g : Nat} {v : Value} {xs : List Value} {cs : Array Value} (h : w.ownsRow base e size v n xs) (hg : Blk w g cs t) (hne : e ≠ t) : v.ownBlock ≠ some g := by
  rcases h.2 with ⟨rfl, _⟩ | ⟨g', cap, cur, rfl, _, hh, _⟩
  · simp [Value.ownBlock]
  · intro he
    obtain rfl : g' = g := by simpa [Value.ownBlock] using he
    unfold Blk at hg
    rw [hh] at hg
    injection hg with hg
    injection hg with _ ht
    exact hne ht
theorem Blk.below {w w' : World} {g : Nat} {cs : Array Value} {t : TypeId} (h : Blk w g cs t) (hb : Below w.heap.size w w') : Blk w' g cs t := (hb.block g h.lt).trans h
theorem owns_below {w w' : World} {base : Nat} {e : TypeId} {size n : Nat} {v : Value} {xs : List Value} (h : w.ownsRow base e size v n xs) (hb : Below w.heap.size w w') : w'.ownsRow base e size v n xs :=
  owns_of_heap h fun g hg => hb.block g (h.lt g hg).2
/-- what stands in the loop of TapeScripts, k picks spoilt -/
structure Spoil (w : World) (b : List Int) (T n : Nat) (vp v1 : Value) (cs : Array Value) (wr : World) : Prop where
  own : ∃ xs : List Value, wr.ownsRow w.heap.size 3 1 vp n xs
  inn : wr.ownsRow w.heap.size 5 1 v1 b.length (b.map encU)
  hT : Blk wr T cs 27
  hw : Below w.heap.size w wr
theorem Spoil.next {w : World} {b : List Int} {T g n cg : Nat} {v1 : Value} {cs : Array Value} {wr : World} (h : Spoil w b T n (.slice (some ⟨g, 0, none⟩) n cg) v1 cs wr) (hg : w.heap.size ≤ g) (k : Nat) (u : Value) : Spoil w b T n (.slice (some ⟨g, 0, none⟩) n cg) v1 cs (wr.setCell ⟨g, k, none⟩ u) := by
  obtain ⟨xs, ho⟩ := h.own
  have h1 := own_blk ho h.hT (by decide)
  refine ⟨⟨_, (ho.stored k u).1⟩, h.inn.kept (ho.stored k u).2 ?_, h.hT.setOther (by intro e; exact h1 (by simp [Value.ownBlock, e])) _, h.hw.setCell hg _⟩
  rcases owns_apart h.inn ho (by decide) with h2 | h2
  · exact .inl h2
  · exact .inr (by simpa [Value.ownBlock] using h2)

set_option maxRecDepth 100000 in
set_option maxHeartbeats 1000000 in
theorem tapescripts_any (b : List Int) (a : Option Addr) (cap : Nat) (w : World) (hb : IsBytes b) (hI : IsSl encU w a b) (hnil : a = none → cap = 0 ∧ b = []) (hsz : b.length ≤ 140737488355328) :
    Calls Try.prog 3 #[.slice a b.length cap] w fun e w' => e = .returned (.bool true) ∧ Below w.heap.size w w' := by
  have HI := Lib.hid hI
  have HNIL := Lib.hid hnil
  clear hI hnil
  go_enter Try.func3, Try.ntmps3
  go_wp2_with fail
  refine (copybytes_any b a cap w HI.out HNIL.out hsz).mono ?_
  rintro e w1 ⟨v1, rfl, ho1, hb1⟩
  obtain ⟨a1, c1, rfl, hc1, hm1⟩ := owns_form ho1
  have O1 := Lib.hid ho1
  have B1 := Lib.hid hb1
  have hb1s := hb1.size
  clear ho1 hb1
  go_wp2_with fail
  refine (script_any b a1 c1 w1 hb (isSl_of_own O1.out rfl) hc1 (by unfold maxLen at hm1; omega)).mono ?_
  rintro e w2 ⟨v2, rfl, hs, hb2⟩
  have S2 := Lib.hid hs
  obtain ⟨g2, cc2, vp2, rfl, hg2, hl2, hp2⟩ := hs
  obtain ⟨ap2, cp2, rfl, hcp1, hcp2⟩ := owns_form hp2
  have P2 := Lib.hid hp2
  replace O1 := Lib.hid (owns_below O1.out hb2)
  replace B1 := Lib.hid (on B1.out hb2)
  clear hl2 hp2 hb2
  go_wp2_with fail
  have BT := Lib.hid (Blk.new w2 #[.int .i64 (scr b).cpus, .int .i64 (scr b).pages, .slice (some ⟨g2, 0, none⟩) (scr b).calls.length cc2, .slice ap2 (scr b).picks.length cp2] 27)
  have hal : Below w2.heap.size w2 (w2.alloc (.cells #[.int .i64 (scr b).cpus, .int .i64 (scr b).pages, .slice (some ⟨g2, 0, none⟩) (scr b).calls.length cc2, .slice ap2 (scr b).picks.length cp2] 27)) := (by repeat (first | exact Below.refl _ _ | assumption | refine Below.setCell ?_ (by first | omega | (simp; done) | (simp; omega)) _ | refine Below.drew ?_ | refine Below.alloc ?_ (by first | omega | (simp; done) | (simp; omega)) _ | refine Below.trans ?_ (Below.mono (by assumption) (by first | omega | (simp; done) | (simp; omega)))))
  replace O1 := Lib.hid (owns_below O1.out hal)
  replace P2 := Lib.hid (owns_below P2.out hal)
  replace B1 := Lib.hid (on B1.out hal)
  have A2 := Lib.hid ((S2.out.at hb).below hal)
  clear S2 hal
  generalize w2.alloc (.cells #[.int .i64 (scr b).cpus, .int .i64 (scr b).pages, .slice (some ⟨g2, 0, none⟩) (scr b).calls.length cc2, .slice ap2 (scr b).picks.length cp2] 27) = W3 at *
  generalize w2.heap.size = T at *
  have b0 := BT.out.cell (i := 0) rfl
  have b1 := BT.out.cell (i := 1) rfl
  have b2 := BT.out.cell (i := 2) rfl
  have b3 := BT.out.cell (i := 3) rfl
  simp at b0 b1 b2 b3
  go_region_held3 (fun w' => w'.cell? ⟨T, 0, none⟩ = some (.int .i64 (scr b).cpus) ∧ w'.cell? ⟨T, 1, none⟩ = some (.int .i64 (scr b).pages) ∧ w'.cell? ⟨T, 2, none⟩ = some (.slice (some ⟨g2, 0, none⟩) (scr b).calls.length cc2) ∧ w'.cell? ⟨T, 3, none⟩ = some (.slice ap2 (scr b).picks.length cp2))
    (first
      | (exact ⟨b0, b1, b2, b3⟩)
      | (exact ⟨below_cell hbB (Nat.le_refl _) b0, below_cell hbB (Nat.le_refl _) b1, below_cell hbB (Nat.le_refl _) b2, below_cell hbB (Nat.le_refl _) b3⟩)
      | (exact ⟨below_cell hbC (Nat.le_refl _) b0, below_cell hbC (Nat.le_refl _) b1, below_cell hbC (Nat.le_refl _) b2, below_cell hbC (Nat.le_refl _) b3⟩))
    (first
      | (go_at_call 12; refine (rscript_any b a cap _ hb (by exact HI.out.below B1.out.drew)).mono ?_; rintro e wB ⟨vB, rfl, hsB, hbB'⟩; have hbB : Below W3.heap.size W3 wB := on ((Below.refl _ _).drew) hbB')
      | (go_at_call 11; refine (same11_any _ _ _ _ _ (by exact A2.out.below hbB) (by exact hsB.at hb)).mono ?_; rintro e wC ⟨rfl, hbC'⟩; have hbC : Below W3.heap.size W3 wC := on hbB hbC'; have hsm := sameB_refl (scr b))
      | (go_at_call 13; refine (eqbytes_any b b a1 a c1 cap _ hb hb (by exact isSl_of_own (owns_below O1.out hbC) rfl) (by exact HI.out.below (on B1.out hbC))).mono ?_; rintro e wD ⟨rfl, rfl⟩))
  have hsp : Spoil w b T (scr b).picks.length (.slice ap2 (scr b).picks.length cp2) (.slice a1 b.length c1) #[.int .i64 (scr b).cpus, .int .i64 (scr b).pages, .slice (some ⟨g2, 0, none⟩) (scr b).calls.length cc2, .slice ap2 (scr b).picks.length cp2] wC :=
    ⟨⟨_, owns_mono (owns_below P2.out hbC) (by have := hb1s; omega)⟩, owns_below O1.out hbC, BT.out.below hbC, on B1.out hbC⟩
  have SP := Lib.hid hsp
  obtain ⟨n, hn⟩ : ∃ n, n = (scr b).picks.length := ⟨_, rfl⟩
  have hnm : n ≤ 9223372036854775807 := by unfold maxLen at hcp2; omega
  have HN := Lib.hid hn
  rw [← hn] at SP ⊢
  clear hsp hn b0 b1 b2 b3 hsm O1 P2 BT A2 B1 hbB hbB' hbC hbC' hsB
  generalize (scr b).cpus = x0 at SP ⊢
  generalize (scr b).pages = x1 at SP ⊢
  generalize (scr b).calls.length = x2 at SP ⊢
  go_wp2_with fail
  go_loopw [5] (fun i wr => ∃ k : Nat, k ≤ n ∧ i = .int .i64 k ∧ Spoil w b T n (.slice ap2 n cp2) (.slice a1 b.length c1) #[.int .i64 x0, .int .i64 x1, .slice (some ⟨g2, 0, none⟩) x2 cc2, .slice ap2 n cp2] wr) (fun i _ => n - (intOf i).toNat)
  case atStart => exact ⟨0, Nat.zero_le _, rfl, SP.out⟩
  case round =>
    clear SP
    obtain ⟨k, hk, rfl, hS⟩ := hrel
    have S := Lib.hid hS
    clear hS
    have q3 := S.out.hT.cell (i := 3) rfl
    simp at q3
    by_cases hlt : k < n
    · obtain ⟨xs, ho⟩ := S.out.own
      obtain ⟨g, cg, hv, hg1, hg2'⟩ := ho.form (by omega)
      obtain ⟨rfl, rfl⟩ : ap2 = some ⟨g, 0, none⟩ ∧ cp2 = cg := by injection hv with h1 _ h3; exact ⟨h1, h3⟩
      have hxl := ho.1
      obtain ⟨x, hx⟩ : ∃ x, wr.cell? ⟨g, k, none⟩ = some x := ⟨xs[k], by rw [ho.cellAt k (by omega)]; exact List.getElem?_eq_getElem (by omega)⟩
      have hf : wr.frozen? ⟨g, k, none⟩ = false := ho.frozenAt k
      have h0 : (0 : Int) ≤ (k : Int) := by omega
      have h1 : (k : Int) < (n : Int) := by omega
      clear ho hv hxl
      go_wp2_with fail
      go_roundw
      case rel => exact ⟨k + 1, by omega, by go_num, S.out.next hg1 k _⟩
      case measure => simp [intOf]; omega
    · obtain rfl : k = n := by omega
      have O1 := Lib.hid S.out.inn
      have B1 := Lib.hid S.out.hw
      clear S
      go_wp2_with fail
      refine (script_any b a1 c1 wr hb (isSl_of_own O1.out rfl) hc1 (by unfold maxLen at hm1; omega)).mono ?_
      rintro e w4 ⟨v4, rfl, hs4, hb4⟩
      replace B1 := Lib.hid (on B1.out hb4)
      have S4 := Lib.hid (hs4.at hb)
      clear hs4 hb4 O1
      go_wp2_with fail
      refine (rscript_any b a cap w4 hb (HI.out.below B1.out)).mono ?_
      rintro e w5 ⟨v5, rfl, hs5, hb5⟩
      replace B1 := Lib.hid (on B1.out hb5)
      replace S4 := Lib.hid (S4.out.below hb5)
      have S5 := Lib.hid (hs5.at hb)
      clear hs5 hb5
      go_wp2_with fail
      refine (same11_any v4 v5 (scr b) (scr b) w5 S4.out S5.out).mono ?_
      rintro e w6 ⟨rfl, hb6⟩
      rw [sameB_refl]
      replace B1 := Lib.hid (on B1.out hb6)
      clear hb6 S4 S5
      go_wp2_with fail
      refine (works_any w6).mono ?_
      rintro e w7 ⟨rfl, hb7⟩
      replace B1 := Lib.hid (on B1.out hb7)
      clear hb7
      go_wp2_with fail
      go_ret
      exact ⟨rfl, B1.out⟩
theorem bytes_of_wf {zs : List Int} (h : ∀ n ∈ zs, (Lit.int .u8 n).wf = true) (len : Nat) : IsBytes (zs.take len) := fun x hx => by
  have := h x (List.mem_of_mem_take hx)
  simpa [Lit.wf, IntKind.min, IntKind.max, IntKind.signed, IntKind.bits] using this
theorem tapescripts_arg {zs : List Int} {a : Option Addr} {len cap : Nat} {w : World} (A : ArgSl encU w a len cap (zs.take len)) (hwf : ∀ n ∈ zs, (Lit.int .u8 n).wf = true) (hl : cap * 1 ≤ 140737488355328) :
    Calls Try.prog 3 #[.slice a len cap] w fun e w' => e = .returned (.bool true) ∧ Below w.heap.size w w' := by
  have hle := A.hle
  have := tapescripts_any (zs.take len) a cap w (bytes_of_wf hwf len) A.hsl (fun h => ⟨A.hnil h, List.eq_nil_of_length_eq_zero (by rw [A.hlen]; have := A.hnil h; omega)⟩) (by rw [A.hlen]; omega)
  rwa [A.hlen] at this
end Go.Proofs.Ytdjhkiahpidldaa
