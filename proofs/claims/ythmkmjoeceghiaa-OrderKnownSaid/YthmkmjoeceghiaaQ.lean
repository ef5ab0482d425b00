/- Bring; the deeds of one object. -/
import Derived.Test.YthmkmjoeceghiaaJ
import Derived.Test.YthmkmjoeceghiaaN
namespace Go.Proofs.Ythmkmjoeceghiaa
open Go.RowKit

attribute [local go_sem ↓] Go.wp_at_zero Go.wp_at_succ
theorem bring_mod (i n : Int) (h1 : 1 ≤ n) (hm1 : -n < i.tmod n) (hm2 : i.tmod n < n) : i % n = if i.tmod n < 0 then i.tmod n + n else i.tmod n := by
  have e : i % n = (i.tmod n) % n := by
    have h := Int.mul_tdiv_add_tmod i n
    have h2 : (n * i.tdiv n + i.tmod n) % n = (i.tmod n) % n := by
      rw [Int.add_comm, Int.add_mul_emod_self_left]
    rw [h] at h2; exact h2
  rw [e]
  split
  · rw [← Int.add_emod_right]; exact Int.emod_eq_of_lt (by omega) (by omega)
  · exact Int.emod_eq_of_lt (by omega) (by omega)
theorem tmod_bd (i n : Int) (h1 : 1 ≤ n) : -n < i.tmod n ∧ i.tmod n < n :=
  ⟨by have := Int.lt_tmod_of_pos i (show 0 < n by omega); omega, Int.tmod_lt_of_pos i (by omega)⟩
set_option maxHeartbeats 400000 in
theorem bring_any (i n : Int) (w : World) (h1 : 1 ≤ n) (h2 : n ≤ 9223372036854775807) :
    Calls Try.prog 19 #[.int .i64 i, .int .i64 n] w fun e w' => e = .returned (.int .i64 (i % n)) ∧ w = w' := by
  have hne : (n == 0) = false := by simp; omega
  obtain ⟨hm1, hm2⟩ := tmod_bd i n h1
  have hemod := bring_mod i n h1 hm1 hm2
  by_cases hneg : i.tmod n < 0
  · rw [if_pos hneg] at hemod
    have hh := Lib.hid hemod
    clear hemod
    go_enter Try.func19, Try.ntmps19
    go_wp2_with fail
    go_ret
    exact ⟨ret1 hh.out.symm, rfl⟩
  · rw [if_neg hneg] at hemod
    have hh := Lib.hid hemod
    clear hemod
    go_enter Try.func19, Try.ntmps19
    go_wp2_with fail
    go_ret
    exact ⟨ret1 hh.out.symm, rfl⟩

theorem info32 : (Try.prog.info? 32).map (fun i => (i.zero, i.size, i.bytes)) = some (some (.agg #[.int .i64 0, .int .i64 0, .int .i64 0, .int .i64 0]), 4, 32) := by kernel_rfl
theorem flatDd_at (l : List Dd) : ∀ (k : Nat) (c : Dd), l[k]? = some c → ∀ j, j < 4 → (l.flatMap ddCells)[k * 4 + j]? = (ddCells c)[j]? := by
  induction l with
  | nil => intro k c h; simp at h
  | cons x l ih =>
    intro k c h j hj
    have hx : (ddCells x).length = 4 := rfl
    rw [List.flatMap_cons]
    cases k with
    | zero =>
      obtain rfl : x = c := by simpa using h
      rw [Nat.zero_mul, Nat.zero_add, List.getElem?_append_left (by omega)]
    | succ k =>
      rw [List.getElem?_append_right (by omega), hx, show (k + 1) * 4 + j - 4 = k * 4 + j by omega]
      exact ih k c (by simpa using h) j hj
theorem isDeeds_of_owns {w : World} {base n cap : Nat} {a : Option Addr} {l : List Dd} (h : w.ownsRow base 32 4 (.slice a n cap) n (l.flatMap ddCells)) (hl : l.length = n) : IsDeeds w a l := fun hne => by
  have h0 : 0 < n := by rw [← hl]; exact List.length_pos_iff.2 hne
  obtain ⟨g, c, hv, _, _⟩ := h.form h0
  obtain ⟨rfl, rfl⟩ : a = some ⟨g, 0, none⟩ ∧ cap = c := by injection hv with h1 _ h3; exact ⟨h1, h3⟩
  refine ⟨g, 0, rfl, fun k c hk => ?_⟩
  have hkl := (List.getElem?_eq_some_iff.1 hk).1
  have at_ : ∀ j, j < 4 → w.cell? ⟨g, 0 + k * 4 + j, none⟩ = (ddCells c)[j]? := fun j hj => by
    rw [Nat.zero_add, h.cellAt (k * 4 + j) (by omega), flatDd_at l k c hk j hj]
  exact ⟨at_ 0 (by omega), at_ 1 (by omega), at_ 2 (by omega), at_ 3 (by omega)⟩

set_option maxRecDepth 100000 in
set_option maxHeartbeats 1000000 in
theorem alone_any (l : List Dd) (o : Ob) (a : Option Addr) (cap : Nat) (w : World) (hl : l.length ≤ 1000) (hI : IsDeeds w a l) :
    Calls Try.prog 20 #[.slice a l.length cap, obV o] w fun e w' => ∃ v, e = .returned v ∧ w'.ownsRow w.heap.size 32 4 v (aloneL l o).length ((aloneL l o).flatMap ddCells) ∧ Below w.heap.size w w' := by
  have hal : Below w.heap.size w (w.alloc (.cells #[.int .i64 o.1, .int .i64 o.2.1, .int .i64 o.2.2] 30)) := (by repeat (first | exact Below.refl _ _ | assumption | refine Below.setCell ?_ (by first | omega | (simp; done) | (simp; omega)) _ | refine Below.drew ?_ | refine Below.alloc ?_ (by first | omega | (simp; done) | (simp; omega)) _ | refine Below.trans ?_ (Below.mono (by assumption) (by first | omega | (simp; done) | (simp; omega)))))
  obtain ⟨i0, hi, hz0, hz1, hz2⟩ := info_parts info32
  have T := Blk.new w #[.int .i64 o.1, .int .i64 o.2.1, .int .i64 o.2.2] 30
  have t0 := Lib.hid (T.cell (i := 0) rfl)
  have t1 := Lib.hid (T.cell (i := 1) rfl)
  have t2 := Lib.hid (T.cell (i := 2) rfl)
  have HI := Lib.hid (hI.below hal)
  have HW := Lib.hid hal
  clear hal hI T
  go_enter Try.func20, Try.ntmps20
  go_wp2_with fail
  generalize w.alloc (.cells #[.int .i64 o.1, .int .i64 o.2.1, .int .i64 o.2.2] 30) = W at *
  go_loopw [5, 6] (fun v i wr => ∃ k : Nat, k ≤ l.length ∧ i = .int .i64 k ∧ wr.ownsRow W.heap.size 32 4 v (aloneL (l.take k) o).length ((aloneL (l.take k) o).flatMap ddCells) ∧ Below W.heap.size W wr) (fun _ i _ => l.length - (intOf i).toNat)
  case atStart => exact ⟨0, Nat.zero_le _, rfl, World.ownsRow_nil _ _ _ _, Below.refl _ _⟩
  case round =>
    obtain ⟨k, hk, rfl, hO, hb⟩ := hrel
    have HB := Lib.hid hb
    have OU := Lib.hid hO
    have s0 := below_cell hb (Nat.le_refl _) t0.out
    have s1 := below_cell hb (Nat.le_refl _) t1.out
    have s2 := below_cell hb (Nat.le_refl _) t2.out
    simp at s0 s1 s2
    have hdl : (aloneL (l.take k) o).length ≤ k := by
      have := List.length_filter_le (mine o) (l.take k)
      rw [take_len hk] at this; exact this
    clear hb hO
    by_cases hlt : k < l.length
    · obtain ⟨x, hx⟩ : ∃ x, l[k]? = some x := ⟨_, List.getElem?_eq_getElem hlt⟩
      obtain ⟨g, off, rfl, hc⟩ := (HI.out.below HB.out) (by intro e; rw [e] at hlt; simp at hlt)
      obtain ⟨d0, d1, d2, d3⟩ := hc k x hx
      have HX := Lib.hid (take_succ hx)
      have i0' : (0 : Int) ≤ (k : Int) := by omega
      have i1 : (k : Int) < (l.length : Int) := by omega
      obtain ⟨x0, x1⟩ := x
      dsimp only at d0 d1 d2 d3
      clear hx hc
      by_cases hxo : x1 = o
      · by_cases hx2 : x0 = 2
        · have hq := eql30 (x := x1) (y := o) true (by simpa using hxo)
          have hn2 : (x0 != 2) = false := by simpa using hx2
          have DR := Lib.hid (show aloneL (l.take (k + 1)) o = aloneL (l.take k) o by rw [HX.out]; simp [aloneL, mine, hx2])
          clear hxo hx2
          go_wp2_with fail
          go_quiet (fail)
          go_wp2_with fail
          go_roundw
          case rel => exact ⟨k + 1, by omega, by go_num, by rw [DR.out]; exact OU.out, below_drewN HB.out _⟩
          case measure => simp [intOf]; omega
        · have hq := eql30 (x := x1) (y := o) true (by simpa using hxo)
          have hn2 : (x0 != 2) = true := by simpa using hx2
          have DR := Lib.hid (show aloneL (l.take (k + 1)) o = aloneL (l.take k) o ++ [(x0, x1)] by rw [HX.out]; simp [aloneL, mine, hx2, hxo])
          clear hxo hx2
          go_wp2_with fail
          go_quiet (fail)
          clear s0 s1 s2 hq hn2
          have hbq : Below wr.heap.size wr (wr.drewN nq) := below_drewN (Below.refl _ _) nq
          generalize wr.drewN nq = wq at hbq ⊢
          replace d0 := below_cell hbq (Nat.le_refl _) d0
          replace d1 := below_cell hbq (Nat.le_refl _) d1
          replace d2 := below_cell hbq (Nat.le_refl _) d2
          replace d3 := below_cell hbq (Nat.le_refl _) d3
          have OQ := owns_below OU.out hbq
          have BQ := on2 HB.out hbq
          have hbs := BQ.size
          go_wp2_with (at_builtin; refine wpList_append_own _ rfl _ _ 22 rfl W.heap.size 32 i0 _ 4 32 Try.underlying22 hi hz0 hz1 hz2 rfl (by omega) _ _ _ rfl (OQ.alloc _) ⟨wq.heap.size, 0, none⟩ 1 1 (ddCells (x0, x1)) rfl rfl (World.news_of_block (cs := #[.int .i64 x0, .int .i64 x1.1, .int .i64 x1.2.1, .int .i64 x1.2.2]) (t := 32) (fr := (0, 0)) (heap_alloc_new wq _)) (by simp [Value.oneCell', ddCells]) (by unfold maxLen; omega) (by omega) (by simp; omega) ?_; intro v' w1 hown' hgrow _)
          have hB1 : Below W.heap.size W w1 := (BQ.alloc BQ.size _).grown hgrow (by simp; omega) (fun g e => (OQ.lt g e).1)
          refine ⟨⟨k + 1, by omega, by go_num, ?_, hB1⟩, by simp [intOf]; omega⟩
          rw [DR.out, List.flatMap_append, List.length_append]
          simpa using hown'
      · have hq := eql30 (x := x1) (y := o) false (by simpa using hxo)
        have DR := Lib.hid (show aloneL (l.take (k + 1)) o = aloneL (l.take k) o by rw [HX.out]; simp [aloneL, mine, hxo])
        clear hxo
        go_wp2_with fail
        go_quiet (fail)
        go_wp2_with fail
        go_roundw
        case rel => exact ⟨k + 1, by omega, by go_num, by rw [DR.out]; exact OU.out, below_drewN HB.out _⟩
        case measure => simp [intOf]; omega
    · obtain rfl : k = l.length := by omega
      rw [List.take_length] at OU
      clear s0 s1 s2
      go_wp2_with fail
      go_ret
      exact ⟨_, rfl, owns_mono OU.out HW.out.size, on HW.out HB.out⟩
end Go.Proofs.Ythmkmjoeceghiaa
