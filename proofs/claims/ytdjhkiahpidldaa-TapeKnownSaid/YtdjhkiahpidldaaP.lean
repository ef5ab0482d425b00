/- The walk over Bytes: what its two inner functions do. -/
import Derived.Test.YtdjhkiahpidldaaM
import Derived.Test.YtdjhkiahpidldaaH
import Derived.Laws.EntriesVeiled
namespace Go.Proofs.Ytdjhkiahpidldaa
open Go.RowKit

attribute [local go_sem ↓] Go.wp_at_zero Go.wp_at_succ
def m8 (n : Int) : Int := n % 256
def encC (c : Cl) : List Int := [c.1, c.2.1, c.2.2.1 / 256, c.2.2.1, c.2.2.2]
def encL (l : List Cl) : List Int := (l.length : Int) :: l.flatMap encC
/-- the numbers that Bytes writes, ahead of their conversion -/
def raw (s : Scr) : List Int := [s.cpus - 1, (s.pages - 1) / 256, s.pages - 1] ++ s.calls.flatMap encL ++ s.picks
/-- the block O holds the slice v of the bytes ys -/
structure Bs (base O : Nat) (ys : List Int) (v : Value) (w : World) : Prop where
  hO : base ≤ O
  hb : Blk w O #[v] 22
  own : w.ownsRow base 5 1 v ys.length (ys.map encU)
/-- what is kept -/
structure Kp (base O : Nat) (a w : World) : Prop where
  below : Below base a w
  size : a.heap.size ≤ w.heap.size
  keep : ∀ g cs t, g ≠ O → t ≠ 5 → Blk a g cs t → Blk w g cs t
theorem Kp.refl (base O : Nat) (w : World) : Kp base O w w := ⟨Below.refl _ _, Nat.le_refl _, fun _ _ _ _ _ h => h⟩
theorem Kp.trans {base O : Nat} {a b c : World} (h : Kp base O a b) (k : Kp base O b c) : Kp base O a c := ⟨h.below.trans k.below, Nat.le_trans h.size k.size, fun g cs t h1 h2 h3 => k.keep g cs t h1 h2 (h.keep g cs t h1 h2 h3)⟩
theorem Kp.alloc {base O : Nat} {a w : World} (h : Kp base O a w) (hb : base ≤ w.heap.size) (o : Obj) : Kp base O a (w.alloc o) := ⟨h.below.alloc hb o, by have := h.size; simp; omega, fun g cs t h1 h2 h3 => (h.keep g cs t h1 h2 h3).alloc o⟩
/-- the slice at a, of numbers, lies where the bytes do not -/
def Ar (base O : Nat) (w : World) (a : Option Addr) (xs : List Int) : Prop :=
  IsSl encI w a xs ∧ (xs = [] ∨ ∃ g off, a = some ⟨g, off, none⟩ ∧ (g < base ∨ g ≠ O ∧ ∃ cs, Blk w g cs 3))
theorem Ar.kept {base O : Nat} {w w' : World} {a : Option Addr} {xs : List Int} (h : Ar base O w a xs) (k : Kp base O w w') : Ar base O w' a xs := by
  obtain ⟨h1, h2⟩ := h
  rcases h2 with rfl | ⟨g, off, rfl, h3⟩
  · exact ⟨IsSl.nil, .inl rfl⟩
  · refine ⟨⟨h1.1, fun hne => ?_⟩, .inr ⟨g, off, rfl, ?_⟩⟩
    · obtain ⟨b, o, ha, hc⟩ := h1.2 hne
      obtain ⟨rfl, rfl⟩ : g = b ∧ off = o := by injection ha with ha; injection ha with h4 h5; exact ⟨h4, h5⟩
      refine ⟨g, off, rfl, fun i x hx => ?_⟩
      rcases h3 with h3 | ⟨h3, cs, hB⟩
      · rw [k.below.cell (by simpa using h3)]; exact hc i x hx
      · have e1 := k.keep g cs 3 h3 (by decide) hB
        have : w'.heap[g]? = w.heap[g]? := by unfold Blk at e1 hB; rw [e1, hB]
        rw [World.cell?_of_block (w := w) (a := ⟨g, off + i, none⟩) this]; exact hc i x hx
    · rcases h3 with h3 | ⟨h3, cs, hB⟩
      · exact .inl h3
      · exact .inr ⟨h3, cs, k.keep g cs 3 h3 (by decide) hB⟩
/-- one byte more: the new one built at the end of the heap, the slice grown, stored back -/
theorem Bs.next {base O : Nat} {ys : List Int} {v v' : Value} {w w1 : World} {o : Obj} {x : Int} (h : Bs base O ys v w) (hg : (w.alloc o).grownBy w1 v.ownBlock) (hown : w1.ownsRow base 5 1 v' (ys.length + 1) (ys.map encU ++ [encU x])) :
    Bs base O (ys ++ [x]) v' (w1.setCell ⟨O, 0, none⟩ v') ∧ Kp base O w (w1.setCell ⟨O, 0, none⟩ v') := by
  have hlt := h.hb.lt
  have hno : v.ownBlock ≠ some O := own_blk h.own h.hb (by decide)
  have hB1 : Blk w1 O #[v] 22 := (h.hb.alloc o).grown hg (Ne.symm hno)
  have hno' : v'.ownBlock ≠ some O := own_blk hown hB1 (by decide)
  have hB2 : Blk (w1.setCell ⟨O, 0, none⟩ v') O #[v'] 22 := hB1.set 0 v' rfl
  refine ⟨⟨h.hO, hB2, ?_⟩, ⟨?_, ?_, ?_⟩⟩
  · have := hown.kept (Only.set O 0 w1 v').g (.inr hno')
    simpa using this
  · exact ((((Below.refl base w).alloc (by have := h.hO; omega) o).grown hg (by have := h.hO; simp; omega) (fun j ej => (h.own.lt j ej).1)).setCell h.hO v')
  · have h1 := hg.size
    have h2 := (Only.set O 0 w1 v').s
    simp at h1
    omega
  · intro g cs t h1 h2 h3
    exact ((h3.alloc o).grown hg (by intro e; exact own_blk h.own h3 (Ne.symm h2) e.symm)).setOther h1 _
set_option maxRecDepth 100000 in
set_option maxHeartbeats 1000000 in
theorem app_any (base O : Nat) (xs ys : List Int) (v : Value) (a : Option Addr) (cap : Nat) (w : World) (hS : Bs base O ys v w) (hA : Ar base O w a xs) (hn : ys.length + xs.length ≤ 1000000) :
    Calls Try.prog 27 #[.slice a xs.length cap, .pointer (some ⟨O, 0, none⟩)] w fun e w' => e = .returned (.tuple #[]) ∧ ∃ v', Bs base O (ys ++ xs.map m8) v' w' ∧ Kp base O w w' := by
  obtain ⟨i0, hi, hz0, hz1, hz2⟩ := info_parts info5
  have AA := Lib.hid hA
  have hS0 : Bs base O (ys ++ (xs.take 0).map m8) v w := by simpa using hS
  have SS := Lib.hid hS0
  clear hA hS hS0
  go_enter Try.func27, Try.ntmps27
  go_wp2_with fail
  go_loopw [7] (fun i wr => ∃ (k : Nat) (v : Value), k ≤ xs.length ∧ i = .int .i64 k ∧ Bs base O (ys ++ (xs.take k).map m8) v wr ∧ Kp base O w wr) (fun i _ => xs.length - (intOf i).toNat)
  case atStart => exact ⟨0, v, Nat.zero_le _, rfl, SS.out, Kp.refl _ _ _⟩
  case round =>
    clear SS
    obtain ⟨k, v, hk, rfl, hS, hK⟩ := hrel
    have S := Lib.hid hS
    have KK := Lib.hid hK
    clear hS hK
    by_cases hlt : k < xs.length
    · obtain ⟨g, off, x, rfl, hx, d0⟩ := (AA.out.kept KK.out).1.at hlt
      have HX := Lib.hid (show ys ++ (xs.take (k + 1)).map m8 = (ys ++ (xs.take k).map m8) ++ [m8 x] by rw [take_succ hx, List.map_append, ← List.append_assoc]; rfl)
      have HL := Lib.hid (show (ys ++ (xs.take k).map m8).length = ys.length + k by simp; omega)
      have c0 := S.out.hb.cell (i := 0) rfl
      have f0 := S.out.hb.frozen 0
      have hown := S.out.own
      have hO := S.out.hO
      have hlO := S.out.hb.lt
      have hno := own_blk hown S.out.hb (by decide)
      simp at c0
      clear hx
      go_wp2_with (at_builtin; refine wpList_append_own _ rfl _ _ 22 rfl base 5 i0 (.int .u8 0) 1 1 Try.underlying22 hi hz0 hz1 hz2 rfl (by decide) _ _ _ rfl (hown.alloc _) ⟨wr.heap.size, 0, none⟩ 1 1 [.int .u8 (x % 256)] rfl rfl (cell_one_new _ _ _) (by simp [Value.oneCell']) (by have := HL.out; unfold maxLen; omega) (by have := HL.out; omega) (by simp; omega) ?_; intro v' w1 hown' hgrow _; obtain ⟨ap, cp, rfl, _, _⟩ := owns_form hown'; have c1 := far_cell hgrow hlO hno c0; have f1 := far_frz hgrow hlO hno f0)
      have nx := S.out.next hgrow (x := m8 x) hown'
      rw [HL.out] at nx
      have NX := Lib.hid nx
      clear nx
      clear hgrow hown' c1 f1 c0 f0 hown
      go_wp2_with fail
      go_roundw
      case rel => exact ⟨k + 1, _, by omega, by go_num, by rw [HX.out]; exact NX.out.1, KK.out.trans NX.out.2⟩
      case measure => simp [intOf]; omega
    · obtain rfl : k = xs.length := by omega
      go_wp2_with fail
      go_end0
      exact ⟨rfl, v, by have := S.out; rwa [List.take_length] at this, KK.out⟩
theorem app_at (base O : Nat) (xs ys : List Int) (v : Value) (a : Option Addr) (la cap : Nat) (w : World) (hl : xs.length = la) (hS : Bs base O ys v w) (hA : Ar base O w a xs) (hn : ys.length + xs.length ≤ 1000000) :
    Calls Try.prog 27 #[.slice a la cap, .pointer (some ⟨O, 0, none⟩)] w fun e w' => e = .returned (.tuple #[]) ∧ ∃ v', Bs base O (ys ++ xs.map m8) v' w' ∧ Kp base O w w' := by
  subst hl
  exact app_any base O xs ys v a cap w hS hA hn
/-- the slice literal that the caller built -/
theorem ar_lit {base O z : Nat} {w : World} {xs : List Int} {cs : Array Value} (hz : z = w.heap.size) (hl : xs.length ≤ 1000) (hc : cs.toList = xs.map encI) (hO : O < w.heap.size) : Ar base O (w.alloc (.cells cs 3)) (some ⟨z, 0, none⟩) xs := by
  subst hz
  exact ⟨isSl_lit hl hc, .inr ⟨w.heap.size, 0, rfl, .inr ⟨by omega, cs, Blk.new w cs 3⟩⟩⟩
theorem Bs.alloc {base O : Nat} {ys : List Int} {v : Value} {w : World} (h : Bs base O ys v w) (o : Obj) : Bs base O ys v (w.alloc o) := ⟨h.hO, h.hb.alloc o, h.own.alloc o⟩
set_option maxRecDepth 100000 in
set_option maxHeartbeats 1000000 in
theorem app2_any (base O F : Nat) (n : Int) (ys : List Int) (v : Value) (w : World) (hS : Bs base O ys v w) (hF : Blk w F #[.func (.func 27) #[] #[.pointer (some ⟨O, 0, none⟩)]] 53) (hn : ys.length ≤ 900000) :
    Calls Try.prog 28 #[.int .i64 n, .pointer (some ⟨F, 0, none⟩)] w fun e w' => e = .returned (.tuple #[]) ∧ ∃ v', Bs base O (ys ++ [n / 256, n].map m8) v' w' ∧ Kp base O w w' := by
  have SS := Lib.hid hS
  have c0 := hF.cell (i := 0) rfl
  simp at c0
  have hO := hS.hb.lt
  clear hS
  go_enter Try.func28, Try.ntmps28
  go_wp2_with fail
  refine (app_at base O [n / 256, n] ys v _ 2 2 _ rfl (SS.out.alloc _) (ar_lit rfl (by simp) rfl hO) (by simp; omega)).mono ?_
  rintro e w1 ⟨rfl, v', hS, hK⟩
  have S1 := Lib.hid hS
  have K1 := Lib.hid (((Kp.refl base O w).alloc (by have := SS.out.hO; omega) _).trans hK)
  clear hS hK c0
  go_wp2_with fail
  go_end0
  exact ⟨rfl, v', S1.out, K1.out⟩
/-- what stands while Bytes writes: the box V of the script, the bytes' block O, the block F of the first inner function -/
structure BSt (w : World) (V O F : Nat) (cs : Array Value) (ys : List Int) (wr : World) : Prop where
  bs : ∃ v, Bs w.heap.size O ys v wr
  bV : Blk wr V cs 27
  bF : Blk wr F #[.func (.func 27) #[] #[.pointer (some ⟨O, 0, none⟩)]] 53
  below : Below w.heap.size w wr
  nV : V ≠ O
  nF : F ≠ O
theorem BSt.alloc {w : World} {V O F : Nat} {cs : Array Value} {ys : List Int} {wr : World} (h : BSt w V O F cs ys wr) (o : Obj) : BSt w V O F cs ys (wr.alloc o) := by
  obtain ⟨v, hv⟩ := h.bs
  exact ⟨⟨v, hv.alloc o⟩, h.bV.alloc o, h.bF.alloc o, h.below.alloc h.below.size o, h.nV, h.nF⟩
theorem BSt.lt {w : World} {V O F : Nat} {cs : Array Value} {ys : List Int} {wr : World} (h : BSt w V O F cs ys wr) : O < wr.heap.size := by
  obtain ⟨v, hv⟩ := h.bs
  exact hv.hb.lt
theorem app_st {w : World} {V O F : Nat} {cs : Array Value} {ys : List Int} {wr : World} (xs : List Int) (a : Option Addr) (la cap : Nat) (hl : xs.length = la) (h : BSt w V O F cs ys wr) (hA : Ar w.heap.size O wr a xs) (hn : ys.length + xs.length ≤ 1000000) :
    Calls Try.prog 27 #[.slice a la cap, .pointer (some ⟨O, 0, none⟩)] wr fun e w' => e = .returned (.tuple #[]) ∧ BSt w V O F cs (ys ++ xs.map m8) w' ∧ Kp w.heap.size O wr w' := by
  obtain ⟨v, hv⟩ := h.bs
  refine (app_at _ O xs ys v a la cap wr hl hv hA hn).mono ?_
  rintro e w' ⟨rfl, v', hS, hK⟩
  exact ⟨rfl, ⟨⟨v', hS⟩, hK.keep _ _ _ h.nV (by decide) h.bV, hK.keep _ _ _ h.nF (by decide) h.bF, h.below.trans hK.below, h.nV, h.nF⟩, hK⟩
theorem two_st {w : World} {V O F : Nat} {cs : Array Value} {ys : List Int} {wr : World} (n : Int) (h : BSt w V O F cs ys wr) (hn : ys.length ≤ 900000) :
    Calls Try.prog 28 #[.int .i64 n, .pointer (some ⟨F, 0, none⟩)] wr fun e w' => e = .returned (.tuple #[]) ∧ BSt w V O F cs (ys ++ [n / 256, n].map m8) w' ∧ Kp w.heap.size O wr w' := by
  obtain ⟨v, hv⟩ := h.bs
  refine (app2_any _ O F n ys v wr hv h.bF hn).mono ?_
  rintro e w' ⟨rfl, v', hS, hK⟩
  exact ⟨rfl, ⟨⟨v', hS⟩, hK.keep _ _ _ h.nV (by decide) h.bV, hK.keep _ _ _ h.nF (by decide) h.bF, h.below.trans hK.below, h.nV, h.nF⟩, hK⟩
end Go.Proofs.Ytdjhkiahpidldaa
