/- TapeKnown: the slice of the fourteen bad scripts is made. -/
import Derived.Test.YtdjhkiahpidldaaAH
namespace Go.Proofs.Ytdjhkiahpidldaa
open Go.RowKit

set_option maxRecDepth 100000 in
set_option maxHeartbeats 4000000 in
theorem bs14 (c0 c1 c2 c3 c4 c5 c6 c7 c8 c9 c10 c11 c12 c13 c14 c15 c16 c17 c18 c19 c20 c21 c22 c23 c24 c25 c26 c27 c28 c29 c30 c31 c32 c33 c34 c35 c36 c37 c38 c39 c40 c41 c42 c43 c44 c45 c46 c47 c48 c49 c50 c51 c52 c53 c54 c55 : Value) (W : World) : (Instr.buildSlice 45 14 #[(0, .agg #[c0, c1, c2, c3]), (1, .agg #[c4, c5, c6, c7]), (2, .agg #[c8, c9, c10, c11]), (3, .agg #[c12, c13, c14, c15]), (4, .agg #[c16, c17, c18, c19]), (5, .agg #[c20, c21, c22, c23]), (6, .agg #[c24, c25, c26, c27]), (7, .agg #[c28, c29, c30, c31]), (8, .agg #[c32, c33, c34, c35]), (9, .agg #[c36, c37, c38, c39]), (10, .agg #[c40, c41, c42, c43]), (11, .agg #[c44, c45, c46, c47]), (12, .agg #[c48, c49, c50, c51]), (13, .agg #[c52, c53, c54, c55])]).run Try.prog W = .ok (.slice (some ⟨W.heap.size, 0, none⟩) 14 14) (W.alloc (.cells #[c0, c1, c2, c3, c4, c5, c6, c7, c8, c9, c10, c11, c12, c13, c14, c15, c16, c17, c18, c19, c20, c21, c22, c23, c24, c25, c26, c27, c28, c29, c30, c31, c32, c33, c34, c35, c36, c37, c38, c39, c40, c41, c42, c43, c44, c45, c46, c47, c48, c49, c50, c51, c52, c53, c54, c55] 27)) := by
  unfold Instr.buildSlice
  go_simp
set_option maxRecDepth 100000 in
set_option maxHeartbeats 4000000 in
theorem allv14 {c0 c1 c2 c3 c4 c5 c6 c7 c8 c9 c10 c11 c12 c13 c14 c15 c16 c17 c18 c19 c20 c21 c22 c23 c24 c25 c26 c27 c28 c29 c30 c31 c32 c33 c34 c35 c36 c37 c38 c39 c40 c41 c42 c43 c44 c45 c46 c47 c48 c49 c50 c51 c52 c53 c54 c55 : Value} {W : World} (d0 : ScrV ⟨0, 0, [], []⟩ (.agg #[c0, c1, c2, c3]) W) (d1 : ScrV ⟨1, 1, [], []⟩ (.agg #[c4, c5, c6, c7]) W) (d2 : ScrV ⟨9, 1, List.replicate 9 [], []⟩ (.agg #[c8, c9, c10, c11]) W) (d3 : ScrV ⟨1, 0, [[]], []⟩ (.agg #[c12, c13, c14, c15]) W) (d4 : ScrV ⟨1, 1025, [[]], []⟩ (.agg #[c16, c17, c18, c19]) W) (d5 : ScrV ⟨1, 1, [zl 65], []⟩ (.agg #[c20, c21, c22, c23]) W) (d6 : ScrV ⟨1, 1, [[(14, 0, 0, 0)]], []⟩ (.agg #[c24, c25, c26, c27]) W) (d7 : ScrV ⟨1, 1, [[(-1, 0, 0, 0)]], []⟩ (.agg #[c28, c29, c30, c31]) W) (d8 : ScrV ⟨1, 1, [[(0, 256, 0, 0)]], []⟩ (.agg #[c32, c33, c34, c35]) W) (d9 : ScrV ⟨1, 1, [[(0, 0, 65536, 0)]], []⟩ (.agg #[c36, c37, c38, c39]) W) (d10 : ScrV ⟨1, 1, [[(0, 0, 0, -1)]], []⟩ (.agg #[c40, c41, c42, c43]) W) (d11 : ScrV ⟨1, 1, [[]], [256]⟩ (.agg #[c44, c45, c46, c47]) W) (d12 : ScrV ⟨1, 1, [[]], [-1]⟩ (.agg #[c48, c49, c50, c51]) W) (d13 : ScrV ⟨1, 1, [[]], List.replicate 4097 0⟩ (.agg #[c52, c53, c54, c55]) W) : AllV (.slice (some ⟨W.heap.size, 0, none⟩) 14 14) (W.alloc (.cells #[c0, c1, c2, c3, c4, c5, c6, c7, c8, c9, c10, c11, c12, c13, c14, c15, c16, c17, c18, c19, c20, c21, c22, c23, c24, c25, c26, c27, c28, c29, c30, c31, c32, c33, c34, c35, c36, c37, c38, c39, c40, c41, c42, c43, c44, c45, c46, c47, c48, c49, c50, c51, c52, c53, c54, c55] 27)) := by
  have hB := Blk.new W #[c0, c1, c2, c3, c4, c5, c6, c7, c8, c9, c10, c11, c12, c13, c14, c15, c16, c17, c18, c19, c20, c21, c22, c23, c24, c25, c26, c27, c28, c29, c30, c31, c32, c33, c34, c35, c36, c37, c38, c39, c40, c41, c42, c43, c44, c45, c46, c47, c48, c49, c50, c51, c52, c53, c54, c55] 27
  have hb := (Below.refl _ W).alloc (Nat.le_refl _) (.cells #[c0, c1, c2, c3, c4, c5, c6, c7, c8, c9, c10, c11, c12, c13, c14, c15, c16, c17, c18, c19, c20, c21, c22, c23, c24, c25, c26, c27, c28, c29, c30, c31, c32, c33, c34, c35, c36, c37, c38, c39, c40, c41, c42, c43, c44, c45, c46, c47, c48, c49, c50, c51, c52, c53, c54, c55] 27)
  refine ⟨_, rfl, fun i s hi => ?_⟩
  match i, hi with
  | 0, hi => obtain rfl := Option.some.inj hi; exact ⟨_, _, _, _, hB.cell rfl, hB.cell rfl, hB.cell rfl, hB.cell rfl, d0.below hb⟩
  | 1, hi => obtain rfl := Option.some.inj hi; exact ⟨_, _, _, _, hB.cell rfl, hB.cell rfl, hB.cell rfl, hB.cell rfl, d1.below hb⟩
  | 2, hi => obtain rfl := Option.some.inj hi; exact ⟨_, _, _, _, hB.cell rfl, hB.cell rfl, hB.cell rfl, hB.cell rfl, d2.below hb⟩
  | 3, hi => obtain rfl := Option.some.inj hi; exact ⟨_, _, _, _, hB.cell rfl, hB.cell rfl, hB.cell rfl, hB.cell rfl, d3.below hb⟩
  | 4, hi => obtain rfl := Option.some.inj hi; exact ⟨_, _, _, _, hB.cell rfl, hB.cell rfl, hB.cell rfl, hB.cell rfl, d4.below hb⟩
  | 5, hi => obtain rfl := Option.some.inj hi; exact ⟨_, _, _, _, hB.cell rfl, hB.cell rfl, hB.cell rfl, hB.cell rfl, d5.below hb⟩
  | 6, hi => obtain rfl := Option.some.inj hi; exact ⟨_, _, _, _, hB.cell rfl, hB.cell rfl, hB.cell rfl, hB.cell rfl, d6.below hb⟩
  | 7, hi => obtain rfl := Option.some.inj hi; exact ⟨_, _, _, _, hB.cell rfl, hB.cell rfl, hB.cell rfl, hB.cell rfl, d7.below hb⟩
  | 8, hi => obtain rfl := Option.some.inj hi; exact ⟨_, _, _, _, hB.cell rfl, hB.cell rfl, hB.cell rfl, hB.cell rfl, d8.below hb⟩
  | 9, hi => obtain rfl := Option.some.inj hi; exact ⟨_, _, _, _, hB.cell rfl, hB.cell rfl, hB.cell rfl, hB.cell rfl, d9.below hb⟩
  | 10, hi => obtain rfl := Option.some.inj hi; exact ⟨_, _, _, _, hB.cell rfl, hB.cell rfl, hB.cell rfl, hB.cell rfl, d10.below hb⟩
  | 11, hi => obtain rfl := Option.some.inj hi; exact ⟨_, _, _, _, hB.cell rfl, hB.cell rfl, hB.cell rfl, hB.cell rfl, d11.below hb⟩
  | 12, hi => obtain rfl := Option.some.inj hi; exact ⟨_, _, _, _, hB.cell rfl, hB.cell rfl, hB.cell rfl, hB.cell rfl, d12.below hb⟩
  | 13, hi => obtain rfl := Option.some.inj hi; exact ⟨_, _, _, _, hB.cell rfl, hB.cell rfl, hB.cell rfl, hB.cell rfl, d13.below hb⟩
  | j + 14, hi => cases hi
theorem ScrV.form {s : Scr} {v : Value} {w : World} (h : ScrV s v w) : ∃ c0 c1 c2 c3, v = .agg #[c0, c1, c2, c3] := by
  obtain ⟨cv, pv, rfl, _⟩ := h
  exact ⟨_, _, _, _, rfl⟩
theorem ks11_eq : ks11 = [4, 45, 46, 47, 48, 49, 50, 51, 52, 53, 54, 55, 56, 57, 58, 59, 60, 61, 62, 63, 64, 65, 66, 67, 68, 69, 70, 71, 72, 73, 74, 75, 76, 77, 78, 79, 80, 81, 82, 83, 84, 85, 86, 87, 88, 89, 90] := by kernel_rfl
set_option maxRecDepth 100000 in
set_option maxHeartbeats 4000000 in
theorem slot11 (x0 x1 x2 x3 x4 x5 x6 x7 x8 x9 x10 x11 x12 x13 x14 x15 x16 x17 x18 x19 x20 x21 x22 x23 x24 x25 x26 x27 x28 x29 x30 x31 x32 x33 x34 x35 x36 x37 x38 x39 x40 x41 x42 x43 x44 x45 x46 x47 x48 x49 x50 x51 x52 x53 x54 x55 x56 x57 x58 x59 x60 x61 x62 x63 x64 x65 x66 x67 x68 x69 x70 x71 x72 x73 x74 x75 x76 x77 x78 x79 x80 x81 x82 x83 x84 x85 x86 x87 x88 x89 x90 x91 x92 x93 x94 x95 x96 x97 x98 x99 x100 x101 x102 x103 x104 x105 x106 x107 x108 x109 x110 x111 x112 x113 x114 x115 x116 x117 x118 x119 x120 x121 x122 x123 x124 x125 x126 x127 x128 x129 x130 x131 x132 x133 x134 x135 x136 x137 x138 x139 x140 x141 x142 x143 x144 x145 x146 x147 x148 x149 x150 x151 x152 x153 x154 x155 x156 x157 x158 x159 x160 x161 x162 x163 : Value) (u : Nat → Value) : slotF ⟨#[x0, x1, x2, x3, x4, x5, x6, x7, x8, x9, x10, x11, x12, x13, x14, x15, x16, x17, x18, x19, x20, x21, x22, x23, x24, x25, x26, x27, x28, x29, x30, x31, x32, x33, x34, x35, x36, x37, x38, x39, x40, x41, x42, x43, x44, x45, x46, x47, x48, x49, x50, x51, x52, x53, x54, x55, x56, x57, x58, x59, x60, x61, x62, x63, x64, x65, x66, x67, x68, x69, x70, x71, x72, x73, x74, x75, x76, x77, x78, x79, x80, x81, x82, x83, x84, x85, x86, x87, x88, x89, x90, x91, x92, x93, x94, x95, x96, x97, x98, x99, x100, x101, x102, x103, x104, x105, x106, x107, x108, x109, x110, x111, x112, x113, x114, x115, x116, x117, x118, x119, x120, x121, x122, x123, x124, x125, x126, x127, x128, x129, x130, x131, x132, x133, x134, x135, x136, x137, x138, x139, x140, x141, x142, x143, x144, x145, x146, x147, x148, x149, x150, x151, x152, x153, x154, x155, x156, x157, x158, x159, x160, x161, x162, x163], []⟩ ks11 u = ⟨#[x0, x1, x2, x3, u 4, x5, x6, x7, x8, x9, x10, x11, x12, x13, x14, x15, x16, x17, x18, x19, x20, x21, x22, x23, x24, x25, x26, x27, x28, x29, x30, x31, x32, x33, x34, x35, x36, x37, x38, x39, x40, x41, x42, x43, x44, u 45, u 46, u 47, u 48, u 49, u 50, u 51, u 52, u 53, u 54, u 55, u 56, u 57, u 58, u 59, u 60, u 61, u 62, u 63, u 64, u 65, u 66, u 67, u 68, u 69, u 70, u 71, u 72, u 73, u 74, u 75, u 76, u 77, u 78, u 79, u 80, u 81, u 82, u 83, u 84, u 85, u 86, u 87, u 88, u 89, u 90, x91, x92, x93, x94, x95, x96, x97, x98, x99, x100, x101, x102, x103, x104, x105, x106, x107, x108, x109, x110, x111, x112, x113, x114, x115, x116, x117, x118, x119, x120, x121, x122, x123, x124, x125, x126, x127, x128, x129, x130, x131, x132, x133, x134, x135, x136, x137, x138, x139, x140, x141, x142, x143, x144, x145, x146, x147, x148, x149, x150, x151, x152, x153, x154, x155, x156, x157, x158, x159, x160, x161, x162, x163], []⟩ := by kernel_rfl
theorem bads_bad : ∀ (i : Nat) (s : Scr), bads[i]? = some s → chkE s = 2 := by
  have h : bads.all (fun s => decide (chkE s = 2)) = true := by kernel_rfl
  intro i s hi
  have := List.all_eq_true.1 h s (List.mem_of_getElem? hi)
  exact of_decide_eq_true this
theorem bads_len : bads.length = 14 := rfl
theorem bads_sz {i : Nat} {s : Scr} (h : bads[i]? = some s) : Sz s ∧ s.calls.length ≤ 100 ∧ ∀ l ∈ s.calls, l.length ≤ 100 := by
  have h0 : bads.all (fun s => decide (s.picks.length ≤ 5000) && (decide (s.calls.length ≤ 100) && s.calls.all (fun l => decide (l.length ≤ 100)))) = true := by kernel_rfl
  have h1 := List.all_eq_true.1 h0 s (List.mem_of_getElem? h)
  rw [Bool.and_eq_true, Bool.and_eq_true] at h1
  obtain ⟨h2, h3, h4⟩ := h1
  have h2 := of_decide_eq_true h2
  have h3 := of_decide_eq_true h3
  have h5 : ∀ l ∈ s.calls, l.length ≤ 100 := fun l hl => of_decide_eq_true (List.all_eq_true.1 h4 l hl)
  exact ⟨⟨by omega, by omega, fun l hl => by have := h5 l hl; omega⟩, h3, h5⟩
/-- what stands from the slice of bad scripts on -/
structure Mid (w : World) (T3 C3 G : Nat) (wr : World) : Prop where
  all : ∀ (i : Nat) (s : Scr), bads[i]? = some s → ∃ c0 c1 c2 c3, wr.cell? ⟨G, i * 4, none⟩ = some c0 ∧ wr.cell? ⟨G, i * 4 + 1, none⟩ = some c1 ∧ wr.cell? ⟨G, i * 4 + 2, none⟩ = some c2 ∧ wr.cell? ⟨G, i * 4 + 3, none⟩ = some c3 ∧ ScrV s (.agg #[c0, c1, c2, c3]) wr
  one : ScrV ⟨1, 1, [[]], []⟩ (.agg #[.int .i64 1, .int .i64 1, .slice (some ⟨C3, 0, none⟩) 1 1, .slice none 0 0]) wr
  below : Below w.heap.size w wr
  t3 : Blk wr T3 #[.int .i64 1, .int .i64 1, .slice (some ⟨C3, 0, none⟩) 1 1, .slice none 0 0] 27
theorem Mid.on {w wr w' : World} {T3 C3 G : Nat} (h : Mid w T3 C3 G wr) (hb : Below wr.heap.size wr w') : Mid w T3 C3 G w' where
  all := fun i s hi => by
    obtain ⟨c0, c1, c2, c3, k0, k1, k2, k3, hv⟩ := h.all i s hi
    exact ⟨c0, c1, c2, c3, below_cell hb (Nat.le_refl _) k0, below_cell hb (Nat.le_refl _) k1, below_cell hb (Nat.le_refl _) k2, below_cell hb (Nat.le_refl _) k3, hv.below hb⟩
  one := h.one.below hb
  below := Go.Proofs.Ytdjhkiahpidldaa.on h.below hb
  t3 := h.t3.below hb
/-- the ten bytes of a round -/
def bs10 (x y : Int) : List Int := [x, y, x, x, x, 1, 2, 3, 4, x]
theorem bs10_is {x y : Int} (h0 : 0 ≤ x) (h1 : x < 256) (h2 : 0 ≤ y) (h3 : y < 256) : IsBytes (bs10 x y) := fun z hz => by
  simp only [bs10, List.mem_cons, List.not_mem_nil, or_false] at hz
  rcases hz with rfl | rfl | rfl | rfl | rfl | rfl | rfl | rfl | rfl | rfl <;> omega
theorem isSl_blk {w : World} {g : Nat} {bs : List Int} {t : TypeId} (hl : bs.length ≤ 9223372036854775807) (h : Blk w g (bs.map encU).toArray t) : IsSl encU w (some ⟨g, 0, none⟩) bs :=
  ⟨hl, fun _ => ⟨g, 0, rfl, fun i x hx => h.cell (by simp [hx])⟩⟩
theorem bs10_sl (W : World) (x y : Int) : IsSl encU (W.alloc (.cells #[.int .u8 x, .int .u8 y, .int .u8 x, .int .u8 x, .int .u8 x, .int .u8 1, .int .u8 2, .int .u8 3, .int .u8 4, .int .u8 x] 5)) (some ⟨W.heap.size, 0, none⟩) (bs10 x y) :=
  isSl_blk (by simp [bs10]) (Blk.new W _ 5)
theorem isBytes_take {bs : List Int} (h : IsBytes bs) (k : Nat) : IsBytes (bs.take k) := fun x hx => h x (List.mem_of_mem_take hx)
theorem bs10_take {x y : Int} {k : Nat} (h : k ≤ 10) : ((bs10 x y).take k).length = k := by
  rw [List.length_take]; exact Nat.min_eq_left h
/-- nine thousand noughts -/
theorem zb_is (n : Nat) : IsBytes (List.replicate n 0) := fun x hx => by
  rw [(List.mem_replicate.1 hx).2]; omega
theorem info5m : (Try.prog.info? 5).map (fun i => (i.zero, i.size, i.bytes)) = some (some (.int .u8 0), 1, 1) := by kernel_rfl
theorem make22 (n : Nat) (hn : n ≤ 100000) (w : World) : (Instr.makeSlice 22 (.int .i64 n) (.int .i64 n)).run Try.prog w = .ok (.slice (some ⟨w.heap.size, 0, none⟩) n n) (w.alloc (.cells (madeCells #[.int .u8 0] n) 5)) := by
  obtain ⟨i, hi, hz, hs, hb⟩ := info_parts info5m
  have := run_make (P := Try.prog) w 22 5 i _ Try.underlying22 hi hz .i64 .i64 (n : Int) (n : Int) (by omega) (Int.le_refl _) (by rw [hb]; omega) (by omega)
  simp only [Int.toNat_natCast, hs, Nat.mul_one] at this
  exact this
theorem zb_sl (W : World) (n : Nat) (hn : n ≤ 100000) : IsSl encU (W.alloc (.cells (madeCells #[.int .u8 0] n) 5)) (some ⟨W.heap.size, 0, none⟩) (List.replicate n 0) := by
  refine ⟨by rw [List.length_replicate]; omega, fun _ => ⟨W.heap.size, 0, rfl, fun i x hx => ?_⟩⟩
  have hin := (List.getElem?_eq_some_iff.1 hx).1
  rw [List.length_replicate] at hin
  obtain rfl : x = 0 := by
    rw [List.getElem?_replicate, if_pos hin] at hx
    exact (Option.some.inj hx).symm
  exact (blk_alloc W _ 5).cell (by rw [Nat.zero_add, madeCells_get _ hin]; simp [Nat.mod_one])
end Go.Proofs.Ytdjhkiahpidldaa
