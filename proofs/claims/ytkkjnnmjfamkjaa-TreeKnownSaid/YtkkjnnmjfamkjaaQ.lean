/- TreeStays. -/
import Derived.Test.YtkkjnnmjfamkjaaO
namespace Go.Proofs.Ytkkjnnmjfamkjaa
open Go.RowKit Go.Shelf

attribute [local go_sem ↓] Go.wp_at_zero Go.wp_at_succ
theorem gAt_snoc {T : List Gp} {y : Gp} {g : Int} (h : g ≤ T.length) : gAt (T ++ [y]) g = gAt T g := by
  unfold gAt
  split
  · rw [List.getElem?_append_left (by omega)]
  · rfl
theorem gAt_new (T : List Gp) (y : Gp) : gAt (T ++ [y]) ((T.length : Int) + 1) = some y := by
  unfold gAt
  rw [if_pos (by omega), List.getElem?_append_right (by omega)]
  rw [show ((T.length : Int) + 1 - 1).toNat - T.length = 0 by omega]; rfl
/-- what Add does to the others, and the new one -/
theorem add_cases (T : List Gp) (x : Int) : (∃ e : Int, (e == 0) = false ∧ addT T x = (0, e, T)) ∨ (∃ T', addT T x = ((T.length : Int) + 1, 0, T') ∧ (∀ g : Int, g ≤ T.length → parentT T' g = parentT T g ∧ depthT T' g = depthT T g ∧ onT T' g = onT T g) ∧
    parentT T' ((T.length : Int) + 1) = x ∧ onT T' ((T.length : Int) + 1) = true ∧ depthT T' ((T.length : Int) + 1) = depthT T x + 1 ∧ depthT T' x = depthT T x) := by
  unfold addT
  cases hg : gAt T x with
  | none => exact .inl ⟨110, by decide, rfl⟩
  | some y =>
    simp only
    split
    · exact .inl ⟨110, by decide, rfl⟩
    · split
      · exact .inl ⟨5, by decide, rfl⟩
      · have hl := gAt_lt hg
        refine .inr ⟨_, rfl, fun g hle => ?_, ?_, ?_, ?_, ?_⟩
        · unfold parentT depthT onT; rw [gAt_snoc hle]; exact ⟨rfl, rfl, rfl⟩
        · unfold parentT; rw [gAt_new]
        · unfold onT; rw [gAt_new]; rfl
        · unfold depthT; rw [gAt_new, hg]
        · unfold depthT; rw [gAt_snoc hl.2.1]
theorem gAt_set {T : List Gp} {k : Nat} {y : Gp} {g : Int} (hk : k < T.length) : gAt (T.set k y) g = if g = (k : Int) + 1 then some y else gAt T g := by
  unfold gAt
  by_cases h1 : 1 ≤ g
  · rw [if_pos h1, if_pos h1, List.getElem?_set]
    by_cases e : g = (k : Int) + 1
    · rw [if_pos e, if_pos (by omega), if_pos hk]
    · rw [if_neg e, if_neg (by omega)]
  · rw [if_neg h1, if_neg h1, if_neg (by omega)]
theorem off_cases (T : List Gp) (x : Int) : (∃ e : Int, (e == 0) = false ∧ offT T x = (e, T)) ∨ (∃ T', offT T x = (0, T') ∧ 1 ≤ x ∧ x ≤ T.length ∧ T'.length = T.length ∧ (∀ g : Int, parentT T' g = parentT T g ∧ depthT T' g = depthT T g ∧ onT T' g = if g = x then false else onT T g)) := by
  unfold offT
  cases hg : gAt T x with
  | none => exact .inl ⟨110, by decide, rfl⟩
  | some y =>
    simp only
    split
    · exact .inl ⟨292, by decide, rfl⟩
    · have hl := gAt_lt hg
      have e : ((x.toNat - 1 : Nat) : Int) + 1 = x := by omega
      refine .inr ⟨_, rfl, hl.1, hl.2.1, by simp, fun g => ?_⟩
      unfold parentT depthT onT
      rw [gAt_set (by omega), e]
      by_cases hgx : g = x
      · rw [if_pos hgx, if_pos hgx, hgx, hg]; exact ⟨rfl, rfl, rfl⟩
      · rw [if_neg hgx, if_neg hgx]; exact ⟨rfl, rfl, rfl⟩
theorem row_put {wr : World} {I : Nat} {t : TypeId} {z : Value} {F : Nat → Value} {k : Nat} (h : wr.rowIs I t 17 (fun c => if 1 ≤ c ∧ c < k then F c else z)) (hk : 1 ≤ k) :
    (wr.setCell ⟨I, k, none⟩ (F k)).rowIs I t 17 (fun c => if 1 ≤ c ∧ c < k + 1 then F c else z) :=
  (h.set k (F k)).congr fun c _ => by
    by_cases e : c = k
    · subst e; rw [if_pos rfl, if_pos ⟨hk, by omega⟩]
    · rw [if_neg e]
      by_cases e2 : 1 ≤ c ∧ c < k
      · rw [if_pos e2, if_pos ⟨e2.1, by omega⟩]
      · rw [if_neg e2, if_neg (fun h => e2 ⟨h.1, by omega⟩)]
theorem KeepT.setRow {ts : List TypeId} {w : World} {g n : Nat} {t : TypeId} {f : Nat → Value} (h : w.rowIs g t n f) (ht : t ∈ ts) (i : Nat) (v : Value) : KeepT ts w (w.setCell ⟨g, i, none⟩ v) := by
  obtain ⟨c, hb, _, _⟩ := h
  exact KeepT.set (show Blk w g c t from hb) ht i v
theorem row_some {w : World} {b : Nat} {t : TypeId} {n i : Nat} {f : Nat → Value} (h : w.rowIs b t n f) (hi : i < n) : ∃ z, w.cell? ⟨b, i, none⟩ = some z := ⟨_, h.cell hi⟩
theorem KeepT.row {ts : List TypeId} {w w' : World} (h : KeepT ts w w') {b : Nat} {t : TypeId} {n : Nat} {f : Nat → Value} (hr : w.rowIs b t n f) (ht : t ∉ ts) : w'.rowIs b t n f := by
  obtain ⟨c, hb, hn, hc⟩ := hr
  exact ⟨c, h b _ hb (fun _ _ _ e => by cases e; exact ht), hn, hc⟩
set_option maxRecDepth 100000 in
set_option maxHeartbeats 2000000 in
theorem stays_any (l : List Dw) (a : Option Addr) (cap : Nat) (kind group : Int) (w : World) (hI : IsDos w a l) (hlen : l.length ≤ 9223372036854775807) :
    Calls Try.prog 6 #[.slice a l.length cap, .int .i64 kind, .int .i64 group] w fun e w' => e = .returned (.bool true) ∧ Below w.heap.size w w' := by
  have II := Lib.hid hI
  clear hI
  have hx18 : 0 ≤ group % 18 ∧ group % 18 < 18 := ⟨by omega, by omega⟩
  obtain ⟨x, hx⟩ : ∃ x, group % 18 = x := ⟨_, rfl⟩
  have HX18 := Lib.hid hx
  rw [hx] at hx18
  clear hx
  go_enter Try.func6, Try.ntmps6
  go_wp2_with fail
  refine (grown_any l a cap _ II.out hlen).mono ?_
  rintro e w2 ⟨B, rfl, hT, hb⟩
  obtain ⟨base, hbase⟩ : ∃ b, w.heap.size = b := ⟨_, rfl⟩
  obtain ⟨T, hTe⟩ : ∃ T, grT l = T := ⟨_, rfl⟩
  have BB := Lib.hid hb
  rw [hbase, hTe] at hT
  have TT := Lib.hid hT
  have hl1 := hT.wf.pos
  have hl2 := hT.wf.le
  have WF := Lib.hid hT.wf
  have HBs := Lib.hid (Nat.le_of_eq hbase)
  have HW2 := Lib.hid hb.size
  clear hT hb hbase hTe II
  go_wp2_with fail
  have ru := ((row17 w2 45 (.int .i64 0)).alloc (.cells #[.int .i64 0, .int .i64 0, .int .i64 0, .int .i64 0, .int .i64 0, .int .i64 0, .int .i64 0, .int .i64 0, .int .i64 0, .int .i64 0, .int .i64 0, .int .i64 0, .int .i64 0, .int .i64 0, .int .i64 0, .int .i64 0, .int .i64 0] 45)).alloc (.cells #[.bool false, .bool false, .bool false, .bool false, .bool false, .bool false, .bool false, .bool false, .bool false, .bool false, .bool false, .bool false, .bool false, .bool false, .bool false, .bool false, .bool false] 42)
  have rd := (row17 (w2.alloc (.cells #[.int .i64 0, .int .i64 0, .int .i64 0, .int .i64 0, .int .i64 0, .int .i64 0, .int .i64 0, .int .i64 0, .int .i64 0, .int .i64 0, .int .i64 0, .int .i64 0, .int .i64 0, .int .i64 0, .int .i64 0, .int .i64 0, .int .i64 0] 45)) 45 (.int .i64 0)).alloc (.cells #[.bool false, .bool false, .bool false, .bool false, .bool false, .bool false, .bool false, .bool false, .bool false, .bool false, .bool false, .bool false, .bool false, .bool false, .bool false, .bool false, .bool false] 42)
  have ro := row17 ((w2.alloc (.cells #[.int .i64 0, .int .i64 0, .int .i64 0, .int .i64 0, .int .i64 0, .int .i64 0, .int .i64 0, .int .i64 0, .int .i64 0, .int .i64 0, .int .i64 0, .int .i64 0, .int .i64 0, .int .i64 0, .int .i64 0, .int .i64 0, .int .i64 0] 45)).alloc (.cells #[.int .i64 0, .int .i64 0, .int .i64 0, .int .i64 0, .int .i64 0, .int .i64 0, .int .i64 0, .int .i64 0, .int .i64 0, .int .i64 0, .int .i64 0, .int .i64 0, .int .i64 0, .int .i64 0, .int .i64 0, .int .i64 0, .int .i64 0] 45)) 42 (.bool false)
  have hb : Below w2.heap.size w2 (((w2.alloc (.cells #[.int .i64 0, .int .i64 0, .int .i64 0, .int .i64 0, .int .i64 0, .int .i64 0, .int .i64 0, .int .i64 0, .int .i64 0, .int .i64 0, .int .i64 0, .int .i64 0, .int .i64 0, .int .i64 0, .int .i64 0, .int .i64 0, .int .i64 0] 45)).alloc (.cells #[.int .i64 0, .int .i64 0, .int .i64 0, .int .i64 0, .int .i64 0, .int .i64 0, .int .i64 0, .int .i64 0, .int .i64 0, .int .i64 0, .int .i64 0, .int .i64 0, .int .i64 0, .int .i64 0, .int .i64 0, .int .i64 0, .int .i64 0] 45)).alloc (.cells #[.bool false, .bool false, .bool false, .bool false, .bool false, .bool false, .bool false, .bool false, .bool false, .bool false, .bool false, .bool false, .bool false, .bool false, .bool false, .bool false, .bool false] 42)) := (by repeat (first | exact Below.refl _ _ | assumption | refine Below.setCell ?_ (by first | omega | (simp; done) | (simp; omega)) _ | refine Below.drew ?_ | refine Below.alloc ?_ (by first | omega | (simp; done) | (simp; omega)) _ | refine Below.trans ?_ (Below.mono (by assumption) (by first | omega | (simp; done) | (simp; omega)))))
  have sz1 : (w2.alloc (.cells #[.int .i64 0, .int .i64 0, .int .i64 0, .int .i64 0, .int .i64 0, .int .i64 0, .int .i64 0, .int .i64 0, .int .i64 0, .int .i64 0, .int .i64 0, .int .i64 0, .int .i64 0, .int .i64 0, .int .i64 0, .int .i64 0, .int .i64 0] 45)).heap.size = w2.heap.size + 1 := by simp
  have sz2 : ((w2.alloc (.cells #[.int .i64 0, .int .i64 0, .int .i64 0, .int .i64 0, .int .i64 0, .int .i64 0, .int .i64 0, .int .i64 0, .int .i64 0, .int .i64 0, .int .i64 0, .int .i64 0, .int .i64 0, .int .i64 0, .int .i64 0, .int .i64 0, .int .i64 0] 45)).alloc (.cells #[.int .i64 0, .int .i64 0, .int .i64 0, .int .i64 0, .int .i64 0, .int .i64 0, .int .i64 0, .int .i64 0, .int .i64 0, .int .i64 0, .int .i64 0, .int .i64 0, .int .i64 0, .int .i64 0, .int .i64 0, .int .i64 0, .int .i64 0] 45)).heap.size = w2.heap.size + 2 := by simp
  rw [sz1] at rd
  rw [sz2] at ro
  have RU := Lib.hid ru
  have RD := Lib.hid rd
  have RO := Lib.hid ro
  have T0 := TT
  replace TT := Lib.hid (TT.out.below hb)
  have B2 := Lib.hid hb
  clear ru rd ro hb sz1 sz2
  generalize ((w2.alloc (.cells #[.int .i64 0, .int .i64 0, .int .i64 0, .int .i64 0, .int .i64 0, .int .i64 0, .int .i64 0, .int .i64 0, .int .i64 0, .int .i64 0, .int .i64 0, .int .i64 0, .int .i64 0, .int .i64 0, .int .i64 0, .int .i64 0, .int .i64 0] 45)).alloc (.cells #[.int .i64 0, .int .i64 0, .int .i64 0, .int .i64 0, .int .i64 0, .int .i64 0, .int .i64 0, .int .i64 0, .int .i64 0, .int .i64 0, .int .i64 0, .int .i64 0, .int .i64 0, .int .i64 0, .int .i64 0, .int .i64 0, .int .i64 0] 45)).alloc (.cells #[.bool false, .bool false, .bool false, .bool false, .bool false, .bool false, .bool false, .bool false, .bool false, .bool false, .bool false, .bool false, .bool false, .bool false, .bool false, .bool false, .bool false] 42) = W3 at *
  refine (many_at TT.out rfl).mono ?_
  rintro e wz ⟨rfl, rfl⟩
  go_wp2_with fail
  go_loopw [12] (fun gv wr => ∃ k : Nat, 1 ≤ k ∧ k ≤ T.length + 1 ∧ gv = .int .i64 k ∧ Below w2.heap.size w2 wr ∧ wr.rowIs w2.heap.size 45 17 (fun c => if 1 ≤ c ∧ c < k then .int .i64 (parentT T c) else .int .i64 0) ∧
    wr.rowIs (w2.heap.size + 1) 45 17 (fun c => if 1 ≤ c ∧ c < k then .int .i64 (depthT T c) else .int .i64 0) ∧ wr.rowIs (w2.heap.size + 2) 42 17 (fun c => if 1 ≤ c ∧ c < k then .bool (onT T c) else .bool false)) (fun gv _ => (17 - intOf gv).toNat)
  case atStart => exact ⟨1, by omega, by omega, rfl, B2.out, RU.out.congr (fun c _ => by rw [if_neg (by omega)]), RD.out.congr (fun c _ => by rw [if_neg (by omega)]), RO.out.congr (fun c _ => by rw [if_neg (by omega)])⟩
  case round =>
    clear TT B2 RU RD RO
    obtain ⟨k, hk1, hk2, rfl, hB, hu, hd, ho⟩ := hrel
    have TT := Lib.hid (T0.out.below hB)
    have B2 := Lib.hid hB
    have RU := Lib.hid hu
    have RD := Lib.hid hd
    have RO := Lib.hid ho
    clear hB hu hd ho
    by_cases hlt : k ≤ T.length
    · have hk17 : k < 17 := by omega
      have hki : (k : Int) < 17 := by omega
      have hk0 : (0 : Int) ≤ (k : Int) := by omega
      obtain ⟨z1, c1⟩ := row_some RU.out hk17
      have f1 := RU.out.frozen k
      go_wp2_with fail
      refine (parent_at TT.out rfl).mono ?_
      rintro e wz ⟨rfl, rfl⟩
      go_wp2_with fail
      have TV := Lib.hid (row_put (F := fun c => .int .i64 (parentT T c)) RU.out hk1)
      replace RU := TV
      clear TV c1 f1
      replace RD := Lib.hid (RD.out.setOther (a := ⟨w2.heap.size, k, none⟩) (by simp) (.int .i64 (parentT T k)))
      replace RO := Lib.hid (RO.out.setOther (a := ⟨w2.heap.size, k, none⟩) (by simp) (.int .i64 (parentT T k)))
      replace B2 := Lib.hid (B2.out.setCell (p := ⟨w2.heap.size, k, none⟩) (by simp) (.int .i64 (parentT T k)))
      replace TT := Lib.hid (T0.out.below B2.out)
      generalize wr.setCell ⟨w2.heap.size, k, none⟩ (.int .i64 (parentT T k)) = Wa at *
      obtain ⟨z1, c1⟩ := row_some RD.out hk17
      have f1 := RD.out.frozen k
      go_wp2_with fail
      refine (depth_at TT.out rfl).mono ?_
      rintro e wz ⟨rfl, rfl⟩
      go_wp2_with fail
      have TV := Lib.hid (row_put (F := fun c => .int .i64 (depthT T c)) RD.out hk1)
      replace RD := TV
      clear TV c1 f1
      replace RU := Lib.hid (RU.out.setOther (a := ⟨w2.heap.size + 1, k, none⟩) (by simp) (.int .i64 (depthT T k)))
      replace RO := Lib.hid (RO.out.setOther (a := ⟨w2.heap.size + 1, k, none⟩) (by simp) (.int .i64 (depthT T k)))
      replace B2 := Lib.hid (B2.out.setCell (p := ⟨w2.heap.size + 1, k, none⟩) (by simp) (.int .i64 (depthT T k)))
      replace TT := Lib.hid (T0.out.below B2.out)
      generalize Wa.setCell ⟨w2.heap.size + 1, k, none⟩ (.int .i64 (depthT T k)) = Wb at *
      obtain ⟨z1, c1⟩ := row_some RO.out hk17
      have f1 := RO.out.frozen k
      go_wp2_with fail
      refine (online_at TT.out rfl).mono ?_
      rintro e wz ⟨rfl, rfl⟩
      go_wp2_with fail
      have TV := Lib.hid (row_put (F := fun c => .bool (onT T c)) RO.out hk1)
      replace RO := TV
      clear TV c1 f1
      replace RU := Lib.hid (RU.out.setOther (a := ⟨w2.heap.size + 2, k, none⟩) (by simp) (.bool (onT T k)))
      replace RD := Lib.hid (RD.out.setOther (a := ⟨w2.heap.size + 2, k, none⟩) (by simp) (.bool (onT T k)))
      replace B2 := Lib.hid (B2.out.setCell (p := ⟨w2.heap.size + 2, k, none⟩) (by simp) (.bool (onT T k)))
      replace TT := Lib.hid (T0.out.below B2.out)
      go_roundw
      case rel => exact ⟨k + 1, by omega, by omega, by go_num, B2.out, RU.out, RD.out, RO.out⟩
      case measure => simp [intOf]; omega
    · obtain rfl : k = T.length + 1 := by omega
      have BF := Lib.hid (on BB.out B2.out)
      clear BB B2 T0
      by_cases hkd : kind % 2 = 0
      · have hb2 : (kind % 2 == 0) = true := by simpa using hkd
        clear hkd
        rcases add_cases T x with ⟨e0, he0, hadd⟩ | ⟨T', hadd, hall, hn1, hn2, hn3, hn4⟩
        · have HA := Lib.hid hadd
          obtain ⟨T', hT'⟩ : ∃ T', T = T' := ⟨_, rfl⟩
          have HT' := Lib.hid hT'
          clear hadd hT'
          go_wp2_with fail
          refine (bring_any group 18 _ (by omega) (by omega)).mono ?_
          rintro e wz ⟨rfl, rfl⟩
          rw [HX18.out]
          go_wp2_with fail
          refine (bring_any kind 2 _ (by omega) (by omega)).mono ?_
          rintro e wz ⟨rfl, rfl⟩
          go_wp2_with fail
          refine (add_at TT.out HA.out).mono ?_
          rintro e W ⟨rfl, hT, hS⟩
          have TF := Lib.hid (show Tr W base B T' from by rw [← HT'.out]; exact hT)
          replace BF := Lib.hid (BF.out.trans (hS.b.mono HBs.out))
          have CC := Lib.hid (show ∀ c : Nat, 1 ≤ c → c ≤ T.length → W.cell? ⟨w2.heap.size, c, none⟩ = some (.int .i64 (parentT T' c)) ∧ W.cell? ⟨w2.heap.size + 1, c, none⟩ = some (.int .i64 (depthT T' c)) ∧ W.cell? ⟨w2.heap.size + 2, c, none⟩ = some (.bool (onT T' c)) from fun c h1 h2 => by
            have a1 := (hS.k.row RU.out (by decide)).cell (i := c) (by omega)
            have a2 := (hS.k.row RD.out (by decide)).cell (i := c) (by omega)
            have a3 := (hS.k.row RO.out (by decide)).cell (i := c) (by omega)
            rw [if_pos ⟨h1, by omega⟩] at a1 a2 a3
            rw [← HT'.out]
            exact ⟨a1, a2, a3⟩)
          clear hT hS RU RD RO HT'
          go_wp2_with fail
          have B8 := Lib.hid (Below.refl W.heap.size W)
          go_loopw [16] (fun hv wr => ∃ k : Nat, 1 ≤ k ∧ k ≤ T.length + 1 ∧ hv = .int .i64 k ∧ Below W.heap.size W wr) (fun hv _ => (17 - intOf hv).toNat)
          case atStart => exact ⟨1, by omega, by omega, rfl, B8.out⟩
          case round =>
            clear B8
            obtain ⟨k, hk1, hk2, rfl, hB9⟩ := hrel
            have B9 := Lib.hid hB9
            have T9 := Lib.hid (TF.out.below hB9)
            clear hB9
            by_cases hlt : k ≤ T.length
            · obtain ⟨xp, hxp⟩ : ∃ z, parentT T' k = z := ⟨_, rfl⟩
              obtain ⟨xd, hxd⟩ : ∃ z, depthT T' k = z := ⟨_, rfl⟩
              obtain ⟨xo, hxo⟩ : ∃ z, onT T' k = z := ⟨_, rfl⟩
              have HP := Lib.hid hxp
              have HD := Lib.hid hxd
              have HO := Lib.hid hxo
              have c1 := CC.out k hk1 hlt
              rw [hxp, hxd, hxo] at c1
              have k1 := fun d os => cell_regrown (below_cell B9.out (Nat.le_refl _) c1.1) d os
              have k2 := fun d os => cell_regrown (below_cell B9.out (Nat.le_refl _) c1.2.1) d os
              have k3 := fun d os => cell_regrown (below_cell B9.out (Nat.le_refl _) c1.2.2) d os
              have i2 : (0 : Int) ≤ (k : Int) := by omega
              have i3 : (k : Int) < 17 := by omega
              clear hxp hxd hxo c1
              go_wp2_with fail
              refine wp_region_quiet_below (by kernel_rfl) (by kernel_rfl) ?_
              repeat (go_big_quiet_step (first | (first | (go_at_call 21; exact Calls.regrown_of ((parent_at (T9.out.below (below_regrown wr _ _)) HP.out).mono fun e w' ⟨h1, h2⟩ => ⟨h1, h2 ▸ Below.refl _ _⟩)) | (go_at_call 20; exact Calls.regrown_of ((depth_at (T9.out.below (below_regrown wr _ _)) HD.out).mono fun e w' ⟨h1, h2⟩ => ⟨h1, h2 ▸ Below.refl _ _⟩)) | (go_at_call 24; exact Calls.regrown_of ((online_at (T9.out.below (below_regrown wr _ _)) HO.out).mono fun e w' ⟨h1, h2⟩ => ⟨h1, h2 ▸ Below.refl _ _⟩)))))
              refine wpQuiet_nil ?_
              intro _ hw'
              obtain ⟨⟨dq, osq⟩, hw''⟩ := hw'
              subst hw''
              have hbq : Below wr.heap.size wr (Go.Sort.grow (redrawn wr dq) osq) := below_regrown wr dq osq
              dsimp only
              generalize Go.Sort.grow (redrawn wr dq) osq = wq at hbq ⊢
              replace B9 := Lib.hid (on B9.out hbq)
              clear k1 k2 k3 hbq
              go_wp2_with fail
              go_roundw
              case rel => exact ⟨k + 1, by omega, by omega, by go_num, B9.out⟩
              case measure => simp [intOf]; omega
            · replace BF := Lib.hid (on BF.out B9.out)
              clear B9 CC
              go_wp2_with fail
              refine (works_any _).mono ?_
              rintro e wz ⟨rfl, hb⟩
              replace BF := Lib.hid (on BF.out hb)
              clear hb
              go_wp2_with fail
              go_ret
              exact ⟨rfl, BF.out⟩
        · have HA := Lib.hid hadd
          have HAL := Lib.hid hall
          have H1 := Lib.hid hn1
          have H2 := Lib.hid hn2
          obtain ⟨d, hd⟩ : ∃ d, depthT T x = d := ⟨_, rfl⟩
          rw [hd] at hn3 hn4
          have hdb : 0 ≤ d ∧ d ≤ 8 := by
            have := path_depth WF.out x
            have := path_len WF.out x
            omega
          have H3 := Lib.hid hn3
          have H4 := Lib.hid hn4
          clear hadd hall hn1 hn2 hn3 hn4 hd
          go_wp2_with fail
          refine (bring_any group 18 _ (by omega) (by omega)).mono ?_
          rintro e wz ⟨rfl, rfl⟩
          rw [HX18.out]
          go_wp2_with fail
          refine (bring_any kind 2 _ (by omega) (by omega)).mono ?_
          rintro e wz ⟨rfl, rfl⟩
          go_wp2_with fail
          refine (add_at TT.out HA.out).mono ?_
          rintro e W ⟨rfl, hT, hS⟩
          have TF := Lib.hid hT
          replace BF := Lib.hid (BF.out.trans (hS.b.mono HBs.out))
          have CC := Lib.hid (show ∀ c : Nat, 1 ≤ c → c ≤ T.length → W.cell? ⟨w2.heap.size, c, none⟩ = some (.int .i64 (parentT T' c)) ∧ W.cell? ⟨w2.heap.size + 1, c, none⟩ = some (.int .i64 (depthT T' c)) ∧ W.cell? ⟨w2.heap.size + 2, c, none⟩ = some (.bool (onT T' c)) from fun c h1 h2 => by
            have a1 := (hS.k.row RU.out (by decide)).cell (i := c) (by omega)
            have a2 := (hS.k.row RD.out (by decide)).cell (i := c) (by omega)
            have a3 := (hS.k.row RO.out (by decide)).cell (i := c) (by omega)
            rw [if_pos ⟨h1, by omega⟩] at a1 a2 a3
            rw [← (HAL.out c (by omega)).1] at a1
            rw [← (HAL.out c (by omega)).2.1] at a2
            rw [← (HAL.out c (by omega)).2.2] at a3
            exact ⟨a1, a2, a3⟩)
          clear hT hS RU RD RO HAL
          go_wp2_with fail
          refine (parent_at TF.out H1.out).mono ?_
          rintro e wz ⟨rfl, rfl⟩
          go_wp2_with fail
          refine (online_at TF.out H2.out).mono ?_
          rintro e wz ⟨rfl, rfl⟩
          go_wp2_with fail
          refine (depth_at TF.out H3.out).mono ?_
          rintro e wz ⟨rfl, rfl⟩
          go_wp2_with fail
          refine (depth_at TF.out H4.out).mono ?_
          rintro e wz ⟨rfl, rfl⟩
          go_wp2_with fail
          have B8 := Lib.hid (Below.refl W.heap.size W)
          go_loopw [16] (fun hv wr => ∃ k : Nat, 1 ≤ k ∧ k ≤ T.length + 1 ∧ hv = .int .i64 k ∧ Below W.heap.size W wr) (fun hv _ => (17 - intOf hv).toNat)
          case atStart => exact ⟨1, by omega, by omega, rfl, B8.out⟩
          case round =>
            clear B8
            obtain ⟨k, hk1, hk2, rfl, hB9⟩ := hrel
            have B9 := Lib.hid hB9
            have T9 := Lib.hid (TF.out.below hB9)
            clear hB9
            by_cases hlt : k ≤ T.length
            · obtain ⟨xp, hxp⟩ : ∃ z, parentT T' k = z := ⟨_, rfl⟩
              obtain ⟨xd, hxd⟩ : ∃ z, depthT T' k = z := ⟨_, rfl⟩
              obtain ⟨xo, hxo⟩ : ∃ z, onT T' k = z := ⟨_, rfl⟩
              have HP := Lib.hid hxp
              have HD := Lib.hid hxd
              have HO := Lib.hid hxo
              have c1 := CC.out k hk1 hlt
              rw [hxp, hxd, hxo] at c1
              have k1 := fun d os => cell_regrown (below_cell B9.out (Nat.le_refl _) c1.1) d os
              have k2 := fun d os => cell_regrown (below_cell B9.out (Nat.le_refl _) c1.2.1) d os
              have k3 := fun d os => cell_regrown (below_cell B9.out (Nat.le_refl _) c1.2.2) d os
              have i2 : (0 : Int) ≤ (k : Int) := by omega
              have i3 : (k : Int) < 17 := by omega
              clear hxp hxd hxo c1
              go_wp2_with fail
              refine wp_region_quiet_below (by kernel_rfl) (by kernel_rfl) ?_
              repeat (go_big_quiet_step (first | (first | (go_at_call 21; exact Calls.regrown_of ((parent_at (T9.out.below (below_regrown wr _ _)) HP.out).mono fun e w' ⟨h1, h2⟩ => ⟨h1, h2 ▸ Below.refl _ _⟩)) | (go_at_call 20; exact Calls.regrown_of ((depth_at (T9.out.below (below_regrown wr _ _)) HD.out).mono fun e w' ⟨h1, h2⟩ => ⟨h1, h2 ▸ Below.refl _ _⟩)) | (go_at_call 24; exact Calls.regrown_of ((online_at (T9.out.below (below_regrown wr _ _)) HO.out).mono fun e w' ⟨h1, h2⟩ => ⟨h1, h2 ▸ Below.refl _ _⟩)))))
              refine wpQuiet_nil ?_
              intro _ hw'
              obtain ⟨⟨dq, osq⟩, hw''⟩ := hw'
              subst hw''
              have hbq : Below wr.heap.size wr (Go.Sort.grow (redrawn wr dq) osq) := below_regrown wr dq osq
              dsimp only
              generalize Go.Sort.grow (redrawn wr dq) osq = wq at hbq ⊢
              replace B9 := Lib.hid (on B9.out hbq)
              clear k1 k2 k3 hbq
              go_wp2_with fail
              go_roundw
              case rel => exact ⟨k + 1, by omega, by omega, by go_num, B9.out⟩
              case measure => simp [intOf]; omega
            · replace BF := Lib.hid (on BF.out B9.out)
              clear B9 CC
              go_wp2_with fail
              refine (works_any _).mono ?_
              rintro e wz ⟨rfl, hb⟩
              replace BF := Lib.hid (on BF.out hb)
              clear hb
              go_wp2_with fail
              go_ret
              exact ⟨rfl, BF.out⟩
      · have hb2 : (kind % 2 == 0) = false := by simpa using hkd
        clear hkd
        rcases off_cases T x with ⟨e0, he0, hoff⟩ | ⟨T', hoff, hx1, hx2, hlT, hall⟩
        · have HA := Lib.hid hoff
          obtain ⟨T', hT'⟩ : ∃ T', T = T' := ⟨_, rfl⟩
          have HT' := Lib.hid hT'
          clear hoff hT'
          go_wp2_with fail
          refine (bring_any group 18 _ (by omega) (by omega)).mono ?_
          rintro e wz ⟨rfl, rfl⟩
          rw [HX18.out]
          go_wp2_with fail
          refine (bring_any kind 2 _ (by omega) (by omega)).mono ?_
          rintro e wz ⟨rfl, rfl⟩
          go_wp2_with fail
          refine (off_at TT.out HA.out).mono ?_
          rintro e W ⟨rfl, hT, hS⟩
          have TF := Lib.hid (show Tr W base B T' from by rw [← HT'.out]; exact hT)
          replace BF := Lib.hid (BF.out.trans (hS.b.mono HBs.out))
          have CC := Lib.hid (show ∀ c : Nat, 1 ≤ c → c ≤ T.length → W.cell? ⟨w2.heap.size, c, none⟩ = some (.int .i64 (parentT T' c)) ∧ W.cell? ⟨w2.heap.size + 1, c, none⟩ = some (.int .i64 (depthT T' c)) ∧ W.cell? ⟨w2.heap.size + 2, c, none⟩ = some (.bool (onT T' c)) from fun c h1 h2 => by
            have a1 := (hS.k.row RU.out (by decide)).cell (i := c) (by omega)
            have a2 := (hS.k.row RD.out (by decide)).cell (i := c) (by omega)
            have a3 := (hS.k.row RO.out (by decide)).cell (i := c) (by omega)
            rw [if_pos ⟨h1, by omega⟩] at a1 a2 a3
            rw [← HT'.out]
            exact ⟨a1, a2, a3⟩)
          clear hT hS RU RD RO HT'
          go_wp2_with fail
          have B8 := Lib.hid (Below.refl W.heap.size W)
          go_loopw [16] (fun hv wr => ∃ k : Nat, 1 ≤ k ∧ k ≤ T.length + 1 ∧ hv = .int .i64 k ∧ Below W.heap.size W wr) (fun hv _ => (17 - intOf hv).toNat)
          case atStart => exact ⟨1, by omega, by omega, rfl, B8.out⟩
          case round =>
            clear B8
            obtain ⟨k, hk1, hk2, rfl, hB9⟩ := hrel
            have B9 := Lib.hid hB9
            have T9 := Lib.hid (TF.out.below hB9)
            clear hB9
            by_cases hlt : k ≤ T.length
            · obtain ⟨xp, hxp⟩ : ∃ z, parentT T' k = z := ⟨_, rfl⟩
              obtain ⟨xd, hxd⟩ : ∃ z, depthT T' k = z := ⟨_, rfl⟩
              obtain ⟨xo, hxo⟩ : ∃ z, onT T' k = z := ⟨_, rfl⟩
              have HP := Lib.hid hxp
              have HD := Lib.hid hxd
              have HO := Lib.hid hxo
              have c1 := CC.out k hk1 hlt
              rw [hxp, hxd, hxo] at c1
              have k1 := fun d os => cell_regrown (below_cell B9.out (Nat.le_refl _) c1.1) d os
              have k2 := fun d os => cell_regrown (below_cell B9.out (Nat.le_refl _) c1.2.1) d os
              have k3 := fun d os => cell_regrown (below_cell B9.out (Nat.le_refl _) c1.2.2) d os
              have i2 : (0 : Int) ≤ (k : Int) := by omega
              have i3 : (k : Int) < 17 := by omega
              clear hxp hxd hxo c1
              go_wp2_with fail
              refine wp_region_quiet_below (by kernel_rfl) (by kernel_rfl) ?_
              repeat (go_big_quiet_step (first | (first | (go_at_call 21; exact Calls.regrown_of ((parent_at (T9.out.below (below_regrown wr _ _)) HP.out).mono fun e w' ⟨h1, h2⟩ => ⟨h1, h2 ▸ Below.refl _ _⟩)) | (go_at_call 20; exact Calls.regrown_of ((depth_at (T9.out.below (below_regrown wr _ _)) HD.out).mono fun e w' ⟨h1, h2⟩ => ⟨h1, h2 ▸ Below.refl _ _⟩)) | (go_at_call 24; exact Calls.regrown_of ((online_at (T9.out.below (below_regrown wr _ _)) HO.out).mono fun e w' ⟨h1, h2⟩ => ⟨h1, h2 ▸ Below.refl _ _⟩)))))
              refine wpQuiet_nil ?_
              intro _ hw'
              obtain ⟨⟨dq, osq⟩, hw''⟩ := hw'
              subst hw''
              have hbq : Below wr.heap.size wr (Go.Sort.grow (redrawn wr dq) osq) := below_regrown wr dq osq
              dsimp only
              generalize Go.Sort.grow (redrawn wr dq) osq = wq at hbq ⊢
              replace B9 := Lib.hid (on B9.out hbq)
              clear k1 k2 k3 hbq
              go_wp2_with fail
              go_roundw
              case rel => exact ⟨k + 1, by omega, by omega, by go_num, B9.out⟩
              case measure => simp [intOf]; omega
            · replace BF := Lib.hid (on BF.out B9.out)
              clear B9 CC
              go_wp2_with fail
              refine (works_any _).mono ?_
              rintro e wz ⟨rfl, hb⟩
              replace BF := Lib.hid (on BF.out hb)
              clear hb
              go_wp2_with fail
              go_ret
              exact ⟨rfl, BF.out⟩
        · have HA := Lib.hid hoff
          have HAL := Lib.hid hall
          have hx17 : x % 17 = x := Int.emod_eq_of_lt (by omega) (by omega)
          have HX17 := Lib.hid hx17
          have x0 : 0 ≤ x := by omega
          have x1 : x < 17 := by omega
          clear hoff hall hlT hx17
          go_wp2_with fail
          refine (bring_any group 18 _ (by omega) (by omega)).mono ?_
          rintro e wz ⟨rfl, rfl⟩
          rw [HX18.out]
          go_wp2_with fail
          refine (bring_any kind 2 _ (by omega) (by omega)).mono ?_
          rintro e wz ⟨rfl, rfl⟩
          go_wp2_with fail
          refine (off_at TT.out HA.out).mono ?_
          rintro e W ⟨rfl, hT, hS⟩
          replace BF := Lib.hid (BF.out.trans (hS.b.mono HBs.out))
          replace RU := Lib.hid (hS.k.row RU.out (by decide))
          replace RD := Lib.hid (hS.k.row RD.out (by decide))
          replace RO := Lib.hid (hS.k.row RO.out (by decide))
          have TG := Lib.hid hT
          clear hT hS TT
          go_wp2_with fail
          refine (bring_any x 17 _ (by omega) (by omega)).mono ?_
          rintro e wz ⟨rfl, rfl⟩
          rw [HX17.out]
          obtain ⟨z1, c1⟩ := row_some RO.out (show x.toNat < 17 by omega)
          have f1 := RO.out.frozen x.toNat
          have TF := Lib.hid (TG.out.keep (ts := [42]) (KeepT.setRow RO.out (by simp) x.toNat (.bool false)) (by decide) (by decide))
          replace RU := Lib.hid (RU.out.setOther (a := ⟨w2.heap.size + 2, x.toNat, none⟩) (by simp) (.bool false))
          replace RD := Lib.hid (RD.out.setOther (a := ⟨w2.heap.size + 2, x.toNat, none⟩) (by simp) (.bool false))
          replace RO := Lib.hid (RO.out.set x.toNat (.bool false))
          replace BF := Lib.hid (BF.out.setCell (p := ⟨w2.heap.size + 2, x.toNat, none⟩) (by have := HW2.out; simp; omega) (.bool false))
          go_wp2_with fail
          generalize W.setCell ⟨w2.heap.size + 2, x.toNat, none⟩ (.bool false) = W9 at *
          have CC := Lib.hid (show ∀ c : Nat, 1 ≤ c → c ≤ T.length → W9.cell? ⟨w2.heap.size, c, none⟩ = some (.int .i64 (parentT T' c)) ∧ W9.cell? ⟨w2.heap.size + 1, c, none⟩ = some (.int .i64 (depthT T' c)) ∧ W9.cell? ⟨w2.heap.size + 2, c, none⟩ = some (.bool (onT T' c)) from fun c h1 h2 => by
            have a1 := RU.out.cell (i := c) (by omega)
            have a2 := RD.out.cell (i := c) (by omega)
            have a3 := RO.out.cell (i := c) (by omega)
            rw [if_pos ⟨h1, by omega⟩] at a1 a2
            rw [← (HAL.out c).1] at a1
            rw [← (HAL.out c).2.1] at a2
            refine ⟨a1, a2, a3.trans ?_⟩
            rw [(HAL.out c).2.2]
            by_cases e : c = x.toNat
            · rw [if_pos e, if_pos (by omega)]
            · rw [if_neg e, if_pos ⟨h1, by omega⟩, if_neg (by omega)])
          clear RU RD RO HAL c1 f1 TG
          have B8 := Lib.hid (Below.refl W9.heap.size W9)
          go_loopw [16] (fun hv wr => ∃ k : Nat, 1 ≤ k ∧ k ≤ T.length + 1 ∧ hv = .int .i64 k ∧ Below W9.heap.size W9 wr) (fun hv _ => (17 - intOf hv).toNat)
          case atStart => exact ⟨1, by omega, by omega, rfl, B8.out⟩
          case round =>
            clear B8
            obtain ⟨k, hk1, hk2, rfl, hB9⟩ := hrel
            have B9 := Lib.hid hB9
            have T9 := Lib.hid (TF.out.below hB9)
            clear hB9
            by_cases hlt : k ≤ T.length
            · obtain ⟨xp, hxp⟩ : ∃ z, parentT T' k = z := ⟨_, rfl⟩
              obtain ⟨xd, hxd⟩ : ∃ z, depthT T' k = z := ⟨_, rfl⟩
              obtain ⟨xo, hxo⟩ : ∃ z, onT T' k = z := ⟨_, rfl⟩
              have HP := Lib.hid hxp
              have HD := Lib.hid hxd
              have HO := Lib.hid hxo
              have c1 := CC.out k hk1 hlt
              rw [hxp, hxd, hxo] at c1
              have k1 := fun d os => cell_regrown (below_cell B9.out (Nat.le_refl _) c1.1) d os
              have k2 := fun d os => cell_regrown (below_cell B9.out (Nat.le_refl _) c1.2.1) d os
              have k3 := fun d os => cell_regrown (below_cell B9.out (Nat.le_refl _) c1.2.2) d os
              have i2 : (0 : Int) ≤ (k : Int) := by omega
              have i3 : (k : Int) < 17 := by omega
              clear hxp hxd hxo c1
              go_wp2_with fail
              refine wp_region_quiet_below (by kernel_rfl) (by kernel_rfl) ?_
              repeat (go_big_quiet_step (first | (first | (go_at_call 21; exact Calls.regrown_of ((parent_at (T9.out.below (below_regrown wr _ _)) HP.out).mono fun e w' ⟨h1, h2⟩ => ⟨h1, h2 ▸ Below.refl _ _⟩)) | (go_at_call 20; exact Calls.regrown_of ((depth_at (T9.out.below (below_regrown wr _ _)) HD.out).mono fun e w' ⟨h1, h2⟩ => ⟨h1, h2 ▸ Below.refl _ _⟩)) | (go_at_call 24; exact Calls.regrown_of ((online_at (T9.out.below (below_regrown wr _ _)) HO.out).mono fun e w' ⟨h1, h2⟩ => ⟨h1, h2 ▸ Below.refl _ _⟩)))))
              refine wpQuiet_nil ?_
              intro _ hw'
              obtain ⟨⟨dq, osq⟩, hw''⟩ := hw'
              subst hw''
              have hbq : Below wr.heap.size wr (Go.Sort.grow (redrawn wr dq) osq) := below_regrown wr dq osq
              dsimp only
              generalize Go.Sort.grow (redrawn wr dq) osq = wq at hbq ⊢
              replace B9 := Lib.hid (on B9.out hbq)
              clear k1 k2 k3 hbq
              go_wp2_with fail
              go_roundw
              case rel => exact ⟨k + 1, by omega, by omega, by go_num, B9.out⟩
              case measure => simp [intOf]; omega
            · replace BF := Lib.hid (on BF.out B9.out)
              clear B9 CC
              go_wp2_with fail
              refine (works_any _).mono ?_
              rintro e wz ⟨rfl, hb⟩
              replace BF := Lib.hid (on BF.out hb)
              clear hb
              go_wp2_with fail
              go_ret
              exact ⟨rfl, BF.out⟩
end Go.Proofs.Ytkkjnnmjfamkjaa
