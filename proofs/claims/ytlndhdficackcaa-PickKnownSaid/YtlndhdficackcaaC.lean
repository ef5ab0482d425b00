/- The walks over pick's Pick and Next, and their references'. -/
import Derived.Test.YtlndhdficackcaaB
namespace Go.Proofs.Ytlndhdficackcaa
open Go.RowKit Go.Shelf

theorem bring_mod (i n : Int) (h1 : 1 ≤ n) (hm1 : -n < i.tmod n) (hm2 : i.tmod n < n) : i % n = if i.tmod n < 0 then i.tmod n + n else i.tmod n := by
  have e : i % n = (i.tmod n) % n := by
    have h := Int.mul_tdiv_add_tmod i n
    have h2 : (n * i.tdiv n + i.tmod n) % n = (i.tmod n) % n := by
      rw [Int.add_comm, Int.add_mul_emod_self_left]
    rw [h] at h2; exact h2
  rw [e]
  split
  · rw [← Int.add_emod_right]; exact Int.emod_eq_of_lt (by omega) (by omega)
  · exact Int.emod_eq_of_lt (by omega) (by omega)
theorem tmod_bd (i n : Int) (h1 : 1 ≤ n) : -n < i.tmod n ∧ i.tmod n < n :=
  ⟨by have := Int.lt_tmod_of_pos i (show 0 < n by omega); omega, Int.tmod_lt_of_pos i (by omega)⟩

set_option maxHeartbeats 400000 in
theorem bring_any (i n : Int) (w : World) (h1 : 1 ≤ n) (h2 : n ≤ 9223372036854775807) :
    Calls Try.prog 18 #[.int .i64 i, .int .i64 n] w fun e w' => e = .returned (.int .i64 (i % n)) ∧ w = w' := by
  have hne : (n == 0) = false := by simp; omega
  obtain ⟨hm1, hm2⟩ := tmod_bd i n h1
  have hemod := bring_mod i n h1 hm1 hm2
  by_cases hneg : i.tmod n < 0
  · rw [if_pos hneg] at hemod
    have hh := Lib.hid hemod
    clear hemod
    go_enter Try.func18, Try.ntmps18
    go_wp2_with fail
    go_ret
    exact ⟨ret1 hh.out.symm, rfl⟩
  · rw [if_neg hneg] at hemod
    have hh := Lib.hid hemod
    clear hemod
    go_enter Try.func18, Try.ntmps18
    go_wp2_with fail
    go_ret
    exact ⟨ret1 hh.out.symm, rfl⟩

theorem running_any (a : Option Addr) (len cap : Nat) (w : World) :
    Calls Try.prog 20 #[.slice a len cap] w fun e w' => e = .returned (.func (.func 23) #[] #[.pointer (some ⟨w.heap.size, 0, none⟩)]) ∧ w' = w.alloc (.cells #[.slice a len cap] 22) :=
  callsIn_wide.1 (running_in Fence.wide 10 trivial rfl a len cap w)

set_option maxHeartbeats 400000 in
theorem collect_any (Bs : Nat) (a : Option Addr) (cap : Nat) (bs : List Bool) (w0 w : World) (hI : IsSl encB w0 a bs) (hb : Below w0.heap.size w0 w) (hBl : Bs < w.heap.size) (hbs : bs.length ≤ 17592186044416)
    (hBs : w.cell? ⟨Bs, 0, none⟩ = some (.slice a bs.length cap)) :
    Calls Try.prog 19 #[.func (.func 23) #[] #[.pointer (some ⟨Bs, 0, none⟩)]] w fun e w' => ∃ v, e = .returned v ∧ w'.ownsRow w.heap.size 3 1 v (tr bs).length ((tr bs).map encN) ∧ Below w.heap.size w w' := by
  have ht := tr_len bs
  have happ := fun W (h : W = w) => callsIn_wide.1 (append_in Fence.wide 10 trivial trivial rfl (by omega) Bs (tr bs) w0 W (h ▸ hb) (by omega) (fun w' hw' => run_stops Fence.wide 9 trivial rfl (by omega) Bs a cap bs w0 w' hI ((h ▸ hb).trans (hw'.mono (h ▸ hb).size)) (by have := hw'.size; subst h; omega)
    ((hw'.cell (p := ⟨Bs, 0, none⟩) (by subst h; exact hBl)).trans (h ▸ hBs))))
  go_enter Try.func19, Try.ntmps19
  go_wp2_with fail
  refine (happ w rfl).mono ?_
  rintro e w1 ⟨v, rfl, hv⟩
  go_wp2_with fail
  go_ret
  exact ⟨v, rfl, hv⟩

/-- what Pick answers -/
def pickA (bs : List Bool) (n : Int) : Int := if tr bs = [] then 0 else ((tr bs)[(n % (tr bs).length).toNat]?.getD 0 : Nat)
def pickB (bs : List Bool) : Bool := decide (tr bs ≠ [])
theorem pick_none {bs : List Bool} (n : Int) (h : tr bs = []) : pickA bs n = 0 ∧ pickB bs = false := by simp [pickA, pickB, h]
theorem pick_some {bs : List Bool} (n : Int) (h : tr bs ≠ []) {k x : Nat} (hk : n % (tr bs).length = k) (hx : (tr bs)[k]? = some x) : pickA bs n = x ∧ pickB bs = true := by
  simp [pickA, pickB, h, hk, hx]

set_option maxHeartbeats 1000000 in
theorem pick_any (bs : List Bool) (a : Option Addr) (cap : Nat) (n : Int) (w : World) (hI : IsSl encB w a bs) (hbs : bs.length ≤ 17592186044416) :
    Calls Try.prog 9 #[.slice a bs.length cap, .int .i64 n] w fun e w' => e = .returned (.tuple #[.int .i64 (pickA bs n), .bool (pickB bs)]) ∧ Below w.heap.size w w' := by
  have hcol := fun W (h : W = w.alloc (.cells #[.slice a bs.length cap] 22)) => collect_any w.heap.size a cap bs w W hI (by subst h; exact (Below.refl _ _).alloc (Nat.le_refl _) _) (by subst h; simp) hbs (by subst h; simp)
  have htl := tr_len bs
  by_cases he : tr bs = []
  · have hh := Lib.hid (pick_none n he)
    go_enter Try.func9, Try.ntmps9
    go_wp2_with fail
    refine (running_any _ _ _ _).mono ?_
    rintro e w1 ⟨rfl, rfl⟩
    go_wp2_with fail
    refine (hcol _ rfl).mono ?_
    rintro e w1 ⟨v, rfl, hv, hb⟩
    obtain ⟨a', cap', rfl, hs, hf, -⟩ := isSl_of_owns hv
    have hb' : Below w.heap.size w w1 := (by repeat (first | exact Below.refl _ _ | assumption | refine Below.setCell ?_ (by first | omega | (simp; done) | (simp; omega)) _ | refine Below.drew ?_ | refine Below.alloc ?_ (by first | omega | (simp; done) | (simp; omega)) _ | refine Below.trans ?_ (Below.mono (by assumption) (by first | omega | (simp; done) | (simp; omega)))))
    rw [he]
    clear hcol he hv hs hb
    go_wp2_with fail
    go_ret2
    exact ⟨retIB hh.out.1.symm hh.out.2.symm, hb'⟩
  · have hpos : 0 < (tr bs).length := List.length_pos_iff.2 he
    obtain ⟨hm1, hm2⟩ := tmod_bd n (tr bs).length (by omega)
    have hemod := bring_mod n (tr bs).length (by omega) hm1 hm2
    have hL : (((tr bs).length : Int) == 0) = false := by simp; omega
    have hnn : 0 ≤ n % ((tr bs).length : Int) := Int.emod_nonneg _ (by omega)
    have hnl : n % ((tr bs).length : Int) < (tr bs).length := Int.emod_lt_of_pos _ (by omega)
    obtain ⟨k, hk⟩ := Int.eq_ofNat_of_zero_le hnn
    have hkl : k < (tr bs).length := by omega
    have hh := Lib.hid (pick_some n he hk (List.getElem?_eq_getElem hkl))
    by_cases hneg : n.tmod (tr bs).length < 0
    · rw [if_pos hneg] at hemod
      have htn : Hid (k = (n.tmod (tr bs).length + (tr bs).length).toNat) := by unfold Hid; omega
      clear hemod hk
      go_enter Try.func9, Try.ntmps9
      go_wp2_with fail
      refine (running_any _ _ _ _).mono ?_
      rintro e w1 ⟨rfl, rfl⟩
      go_wp2_with fail
      refine (hcol _ rfl).mono ?_
      rintro e w1 ⟨v, rfl, hv, hb⟩
      obtain ⟨a', cap', rfl, hs, hf, -⟩ := isSl_of_owns hv
      have hb' : Below w.heap.size w w1 := (by repeat (first | exact Below.refl _ _ | assumption | refine Below.setCell ?_ (by first | omega | (simp; done) | (simp; omega)) _ | refine Below.drew ?_ | refine Below.alloc ?_ (by first | omega | (simp; done) | (simp; omega)) _ | refine Below.trans ?_ (Below.mono (by assumption) (by first | omega | (simp; done) | (simp; omega)))))
      obtain ⟨b, off, x, rfl, hx, hc⟩ := hs.at hkl
      have hx' : Hid ((tr bs)[k] = x) := by rw [List.getElem?_eq_getElem hkl] at hx; exact Option.some.inj hx
      rw [htn.out] at hc
      clear hcol he hv hs hb hx hf
      go_wp2_with fail
      go_ret2
      exact ⟨retIB (by rw [hh.out.1, hx'.out]) hh.out.2.symm, hb'⟩
    · rw [if_neg hneg] at hemod
      have htn : Hid (k = (n.tmod (tr bs).length).toNat) := by unfold Hid; omega
      clear hemod hk
      go_enter Try.func9, Try.ntmps9
      go_wp2_with fail
      refine (running_any _ _ _ _).mono ?_
      rintro e w1 ⟨rfl, rfl⟩
      go_wp2_with fail
      refine (hcol _ rfl).mono ?_
      rintro e w1 ⟨v, rfl, hv, hb⟩
      obtain ⟨a', cap', rfl, hs, hf, -⟩ := isSl_of_owns hv
      have hb' : Below w.heap.size w w1 := (by repeat (first | exact Below.refl _ _ | assumption | refine Below.setCell ?_ (by first | omega | (simp; done) | (simp; omega)) _ | refine Below.drew ?_ | refine Below.alloc ?_ (by first | omega | (simp; done) | (simp; omega)) _ | refine Below.trans ?_ (Below.mono (by assumption) (by first | omega | (simp; done) | (simp; omega)))))
      obtain ⟨b, off, x, rfl, hx, hc⟩ := hs.at hkl
      have hx' : Hid ((tr bs)[k] = x) := by rw [List.getElem?_eq_getElem hkl] at hx; exact Option.some.inj hx
      rw [htn.out] at hc
      clear hcol he hv hs hb hx hf
      go_wp2_with fail
      go_ret2
      exact ⟨retIB (by rw [hh.out.1, hx'.out]) hh.out.2.symm, hb'⟩

set_option maxHeartbeats 1000000 in
theorem rpick_any (bs : List Bool) (a : Option Addr) (cap : Nat) (n : Int) (w : World) (hI : IsSl encB w a bs) (hbs : bs.length ≤ 17592186044416) :
    Calls Try.prog 10 #[.slice a bs.length cap, .int .i64 n] w fun e w' => e = .returned (.tuple #[.int .i64 (pickA bs n), .bool (pickB bs)]) ∧ Below w.heap.size w w' := by
  have htl := tr_len bs
  obtain ⟨i0, hi, hz0, hz1, hz2⟩ := info_parts info3
  go_enter Try.func10, Try.ntmps10
  go_wp2_with fail
  go_loopw [6, 7] (fun l i wr => ∃ k : Nat, k ≤ bs.length ∧ i = .int .i64 k ∧ wr.ownsRow w.heap.size 3 1 l (tr (bs.take k)).length ((tr (bs.take k)).map encN) ∧ Below w.heap.size w wr) (fun _ i _ => bs.length - (intOf i).toNat)
  case atStart => exact ⟨0, by omega, rfl, World.ownsRow_nil _ _ _ _, Below.refl _ _⟩
  case round =>
    obtain ⟨k, hk, rfl, hown, HW⟩ := hrel
    by_cases hlt : k < bs.length
    · obtain ⟨b, off, x, rfl, hxk, hc⟩ := (hI.below HW).at hlt
      have htk := take_succ hxk
      have hll : (bs.take k).length = k := by rw [List.length_take]; omega
      have hts : (tr (bs.take k)).length ≤ k := by have := tr_len (bs.take k); omega
      cases x with
      | true =>
        have ht := Lib.hid (show tr (bs.take (k + 1)) = tr (bs.take k) ++ [k] by rw [htk, tr_hit, hll])
        clear htk hxk hI hll
        go_wp2_with (at_builtin; refine wpList_append_own _ rfl _ _ 27 rfl w.heap.size 3 i0 (.int .i64 0) 1 8 Try.underlying27 hi hz0 hz1 hz2 rfl (by decide) _ _ _ rfl (hown.alloc _) ⟨wr.heap.size, 0, none⟩ 1 1 [encN k] rfl rfl (cell_one_new _ _ _) (by simp [Value.oneCell', encN]) (by unfold maxLen; omega) (by omega) (by have := HW.size; simp; omega) ?_; intro v' w1 hown' hgrow _)
        have HW1 : Below w.heap.size w w1 := (HW.alloc HW.size _).grown hgrow (by have := HW.size; simp; omega) (fun j ej => (hown.lt j ej).1)
        clear hgrow hown
        go_wp2_with fail
        go_roundw
        case rel => exact ⟨k + 1, by omega, by go_num, by rw [ht.out]; simpa using hown', HW1⟩
        case measure => simp [intOf]; omega
      | false =>
        have ht := Lib.hid (show tr (bs.take (k + 1)) = tr (bs.take k) by rw [htk, tr_miss])
        clear htk hxk hI hll
        go_wp2_with fail
        go_roundw
        case rel => exact ⟨k + 1, by omega, by go_num, by rw [ht.out]; exact hown, HW⟩
        case measure => simp [intOf]; omega
    · obtain rfl : k = bs.length := by omega
      rw [List.take_length] at hown
      obtain ⟨a', cap', rfl, hs, hf, -⟩ := isSl_of_owns hown
      by_cases he : tr bs = []
      · have hh := Lib.hid (pick_none n he)
        have h0 : (((tr bs).length : Int) == 0) = true := by rw [he]; rfl
        clear hown hs hf he
        go_wp2_with fail
        go_ret2
        exact ⟨retIB hh.out.1.symm hh.out.2.symm, HW⟩
      · have hpos : 0 < (tr bs).length := List.length_pos_iff.2 he
        have hL : (((tr bs).length : Int) == 0) = false := by simp; omega
        have hnn : 0 ≤ n % ((tr bs).length : Int) := Int.emod_nonneg _ (by omega)
        have hnl : n % ((tr bs).length : Int) < (tr bs).length := Int.emod_lt_of_pos _ (by omega)
        obtain ⟨k, hk⟩ := Int.eq_ofNat_of_zero_le hnn
        have hkl : k < (tr bs).length := by omega
        have hh := Lib.hid (pick_some n he hk (List.getElem?_eq_getElem hkl))
        obtain ⟨b, off, x, rfl, hx, hc⟩ := hs.at hkl
        have hx' : Hid ((tr bs)[k] = x) := by rw [List.getElem?_eq_getElem hkl] at hx; exact Option.some.inj hx
        have hbr := fun w => bring_any n (tr bs).length w (by omega) (by omega)
        rw [hk] at hbr
        clear hown hs hf he hk hnn hnl hx
        go_wp2_with fail
        refine (hbr _).mono ?_
        rintro e w1 ⟨rfl, rfl⟩
        go_wp2_with fail
        go_ret2
        exact ⟨retIB (by rw [hh.out.1, hx'.out]) hh.out.2.symm, HW⟩
end Go.Proofs.Ytlndhdficackcaa
