/- TopRained: the flow at the point. Conditions: as stated. -/
import Derived.Test.YtpolipcicfjkiaaK39
import Derived.ProofKit
import Derived.Deep.Slices
import Derived.Lib.SmallJoins
import Derived.Below
namespace Go.Proofs.Ytpolipcicfjkiaa
open Go.RowKit
open Go.Proofs.Ytpolipcicfjkiaa.Cy (stepD runD)

set_option maxRecDepth 100000 in
set_option maxHeartbeats 8000000 in
theorem piece_a1 {x0 x1 x2 x6 x7 x8 x9 x10 x11 x12 x13 x14 x15 x16 x17 x18 x19 x20 x21 x22 x23 x24 x25 x26 x27 x28 x29 x30 x31 x32 x33 x34 x35 x36 x37 x38 x39 x40 x41 x42 x43 x44 x45 x46 x47 x48 x49 x50 x51 x52 x53 x54 x55 x56 x57 x58 x59 x60 x61 x62 x63 x64 x65 x66 x67 x68 x69 x70 x71 x72 x73 x74 x75 x76 x77 x78 x79 x80 x81 x82 x83 x84 x85 x86 x87 x88 x89 x90 x91 x92 x93 x94 x95 x96 x97 x98 x99 x100 x101 x102 x103 x104 x105 x106 x107 x108 x109 x110 x111 x112 x113 x114 x115 x116 x117 x118 x119 x120 x121 x122 x123 x124 x125 x126 x127 x128 x129 x130 x131 x132 x133 x134 x135 x136 x137 x138 x139 x140 x141 x142 x143 x144 x145 x146 x147 x148 x149 x150 x151 x152 x153 x154 x155 x156 x157 x158 x159 x160 x161 x162 x163 x164 x165 x166 x167 x168 x169 x170 x171 x172 x173 x174 x175 x176 x177 x178 x179 x180 x181 x182 x183 x184 x185 x186 x187 x188 x189 x190 x191 x192 x193 x194 x195 x196 x197 x198 x199 x200 x201 x202 x203 x204 x205 x206 x207 x208 x209 x210 x211 x212 x213 x214 x215 x216 x217 x218 x219 x220 x221 x222 x223 x224 x225 x226 x227 x228 x229 x230 x231 x232 x233 x234 x235 x236 x237 x238 x239 x240 x241 x242 x243 x244 x245 x246 x247 x248 x249 x250 x251 x252 x253 x254 x255 x256 x257 x258 x259 x260 x261 x262 x263 x264 x265 x266 x267 x268 x269 x270 x271 x272 x273 x274 x275 x276 x277 x278 x279 x280 x281 x282 x283 x284 x285 x286 x287 x288 x289 x290 x291 x292 x293 x294 x295 x296 : Value} {B : Nat} {w0 : World} {Post : Value → World → Prop} {c0 : Nat → Cy.Cls} {vv V : World} {y : CY} {d : DLine} {pv dp dq : Value} {lo hi day : Int} {p : Nat} {by_ bd bx : Nat} (hvv : vv.heap = (Cy.view c0 0 w0).heap) (hB : vv.heap.size = B) (hlow : Cy.BelowH B vv V) (hpost : ∀ w, Cy.Old B w0 w → Post (.bool true) w)
    (hY : YAt vv (.agg #[I y.size, I y.start, pv]) y) (hD : LineAt vv (.agg #[dp, dq]) d) (hS : StX [(by_, #[I y.size, I y.start, pv], 24), (bd, #[dp, dq], 28), (bx, #[I (p : Int), I lo, I hi, I day], 32)] V) (hge : B ≤ by_ ∧ B ≤ bd ∧ B ≤ bx)
    (hvd : valid d = true) (hpl : p < d.pts.length) (hyl : y.days.length ≤ 40) (hyd : y.days.length ≤ d.pts.length) : GoS PA.prog (Cy.AtOk0 B w0 Post c0) (Go.Conc.base 3) [] ([] ++ [Cy.trap]) (cd3 2) ⟨#[x0, x1, x2, .pointer (some ⟨by_, 0, none⟩), .pointer (some ⟨bd, 0, none⟩), .pointer (some ⟨bx, 0, none⟩), x6, x7, x8, x9, x10, x11, x12, x13, x14, x15, x16, x17, x18, x19, x20, x21, x22, x23, x24, x25, x26, x27, x28, x29, x30, x31, x32, x33, x34, x35, x36, x37, x38, x39, x40, x41, x42, x43, x44, x45, x46, x47, x48, x49, x50, x51, x52, x53, x54, x55, x56, x57, x58, x59, x60, x61, x62, x63, x64, x65, x66, x67, x68, x69, x70, x71, x72, x73, x74, x75, x76, x77, x78, x79, x80, x81, x82, x83, x84, x85, x86, x87, x88, x89, x90, x91, x92, x93, x94, x95, x96, x97, x98, x99, x100, x101, x102, x103, x104, x105, x106, x107, x108, x109, x110, x111, x112, x113, x114, x115, x116, x117, x118, x119, x120, x121, x122, x123, x124, x125, x126, x127, x128, x129, x130, x131, x132, x133, x134, x135, x136, x137, x138, x139, x140, x141, x142, x143, x144, x145, x146, x147, x148, x149, x150, x151, x152, x153, x154, x155, x156, x157, x158, x159, x160, x161, x162, x163, x164, x165, x166, x167, x168, x169, x170, x171, x172, x173, x174, x175, x176, x177, x178, x179, x180, x181, x182, x183, x184, x185, x186, x187, x188, x189, x190, x191, x192, x193, x194, x195, x196, x197, x198, x199, x200, x201, x202, x203, x204, x205, x206, x207, x208, x209, x210, x211, x212, x213, x214, x215, x216, x217, x218, x219, x220, x221, x222, x223, x224, x225, x226, x227, x228, x229, x230, x231, x232, x233, x234, x235, x236, x237, x238, x239, x240, x241, x242, x243, x244, x245, x246, x247, x248, x249, x250, x251, x252, x253, x254, x255, x256, x257, x258, x259, x260, x261, x262, x263, x264, x265, x266, x267, x268, x269, x270, x271, x272, x273, x274, x275, x276, x277, x278, x279, x280, x281, x282, x283, x284, x285, x286, x287, x288, x289, x290, x291, x292, x293, x294, x295, x296], []⟩ V := by
  have hYV : ∀ {V' : World}, Cy.BelowH B vv V' → YAt V' (.agg #[I y.size, I y.start, pv]) y := fun h => hY.belowH (by rw [hB]; exact h)
  have hDV : ∀ {V' : World}, Cy.BelowH B vv V' → LineAt V' (.agg #[dp, dq]) d := fun h => LineAt.belowH hD (by rw [hB]; exact h)
  have box : ∀ {V' : World}, StX [(by_, #[I y.size, I y.start, pv], 24), (bd, #[dp, dq], 28), (bx, #[I (p : Int), I lo, I hi, I day], 32)] V' → (V'.cell? ⟨by_, 0, none⟩ = some (I y.size) ∧ V'.cell? ⟨by_, 1, none⟩ = some (I y.start) ∧ V'.cell? ⟨by_, 2, none⟩ = some pv) ∧ (V'.cell? ⟨bd, 0, none⟩ = some dp ∧ V'.cell? ⟨bd, 1, none⟩ = some dq) ∧ V'.cell? ⟨bx, 0, none⟩ = some (I (p : Int)) ∧ V'.cell? ⟨bx, 1, none⟩ = some (I lo) ∧ V'.cell? ⟨bx, 2, none⟩ = some (I hi) ∧ V'.cell? ⟨bx, 3, none⟩ = some (I day) := fun {V'} h =>
    ⟨⟨Cy.cell_blk (i := 0) (h (by_, #[I y.size, I y.start, pv], 24) (by simp)) rfl, Cy.cell_blk (i := 1) (h (by_, #[I y.size, I y.start, pv], 24) (by simp)) rfl, Cy.cell_blk (i := 2) (h (by_, #[I y.size, I y.start, pv], 24) (by simp)) rfl⟩,
      ⟨Cy.cell_blk (i := 0) (h (bd, #[dp, dq], 28) (by simp)) rfl, Cy.cell_blk (i := 1) (h (bd, #[dp, dq], 28) (by simp)) rfl⟩,
      Cy.cell_blk (i := 0) (h (bx, #[I (p : Int), I lo, I hi, I day], 32) (by simp)) rfl, Cy.cell_blk (i := 1) (h (bx, #[I (p : Int), I lo, I hi, I day], 32) (by simp)) rfl, Cy.cell_blk (i := 2) (h (bx, #[I (p : Int), I lo, I hi, I day], 32) (by simp)) rfl, Cy.cell_blk (i := 3) (h (bx, #[I (p : Int), I lo, I hi, I day], 32) (by simp)) rfl⟩
  obtain ⟨⟨c0, c1, c2⟩, ⟨d0, d1⟩, z0, z1, z2, z3⟩ := box hS
  have hD0 := hD
  obtain ⟨pv', ov', e, hpts, -⟩ := hD0
  obtain ⟨rfl, rfl⟩ : pv' = dp ∧ ov' = dq := by
    simp only [Value.agg.injEq] at e
    have e := congrArg Array.toList e
    simp at e
    exact ⟨e.1.symm, e.2.symm⟩
  obtain ⟨A, cp, hdp, hc1, hc2, hc3⟩ := hpts.open_
  obtain ⟨b, o, rfl, hbl, hcell⟩ := hc3 (by omega)
  obtain ⟨m0, m1, -⟩ := hcell p hpl
  obtain ⟨q, hq⟩ : ∃ q, d.pts[p] = q := ⟨_, rfl⟩
  rw [hq, ← hlow.cell (p := ⟨b, _, none⟩) (by show b < B; omega)] at m0 m1
  have HQ := Lib.hid hq
  have HVD := Lib.hid hvd
  have hpz : (p : Int) < (d.pts.length : Int) := by omega
  have HD := Lib.hid hD
  clear e hpts hc1 hc2 hc3 hcell hq hvd hD
  subst hdp
  have hb1 : Below V.heap.size V (V.alloc (.cells #[I q.lo, I q.hi] 30)) := (Below.refl _ _).alloc (Nat.le_refl _) _
  have HN := Lib.hid (Cy.hb_new V (.cells #[I q.lo, I q.hi] 30)).blk
  have HB1 := Lib.hid hb1
  clear hb1
  refine goS_step 2 rfl fun K Q hK hQ => ?_
  simp only [cd3, code3, Try.f3, Option.getD_some, Cy.sqL, Cy.sqR]
  go_wp2_with fail
  have hsB := hlow.size
  have low1 := low_of hB hlow HB1.out
  have st1 := hS.below HB1.out.block
  refine goS_world (F := fun W => Cy.BelowH B vv W ∧ StX [(by_, #[I y.size, I y.start, pv], 24), (bd, #[.slice (some ⟨b, o, none⟩) d.pts.length cp, ov'], 28), (bx, #[I (p : Int), I lo, I hi, I day], 32)] W ∧ W.heap[V.heap.size]? = some (.cells #[I q.lo, I q.hi] 30)) ⟨low1, st1, HN.out⟩ ?_
  clear c0 c1 c2 d0 d1 z0 z1 z2 z3 m0 m1 low1 st1 HN HB1
  rintro W2 ⟨low2, st2, hs2⟩
  obtain ⟨-, -, y0, y1, y2, y3⟩ := box st2
  have s0 := Cy.cell_blk (i := 0) hs2 rfl
  have s1 := Cy.cell_blk (i := 1) hs2 rfl
  simp only [List.getElem_toArray, List.getElem_cons_zero, List.getElem_cons_succ] at s0 s1
  have hs3 := low2.size
  by_cases h1 : lo < q.lo
  · refine goS_step 3 rfl fun K Q hK hQ => ?_
    simp only [cd3, code3, Try.f3, Option.getD_some, Cy.sqL, Cy.sqR]
    go_wp2_with (go_at_call 8; refine (rained_any _).mono ?_; rintro e w7 ⟨rfl, hb7⟩)
    have hl7 := low_ofH hB low2 hb7
    exact end_here0 rfl rfl hpost (hB_of hvv hl7) (by have := hl7.size; omega)
  by_cases h2 : q.hi < hi
  · refine goS_step 3 rfl fun K Q hK hQ => ?_
    simp only [cd3, code3, Try.f3, Option.getD_some, Cy.sqL, Cy.sqR]
    go_wp2_with (go_at_call 8; refine (rained_any _).mono ?_; rintro e w7 ⟨rfl, hb7⟩)
    have hl7 := low_ofH hB low2 hb7
    exact end_here0 rfl rfl hpost (hB_of hvv hl7) (by have := hl7.size; omega)
  by_cases h3 : hi < lo
  · refine goS_step 3 rfl fun K Q hK hQ => ?_
    simp only [cd3, code3, Try.f3, Option.getD_some, Cy.sqL, Cy.sqR]
    go_wp2_with (go_at_call 8; refine (rained_any _).mono ?_; rintro e w7 ⟨rfl, hb7⟩)
    have hl7 := low_ofH hB low2 hb7
    exact end_here0 rfl rfl hpost (hB_of hvv hl7) (by have := hl7.size; omega)
  have hin : insideB (lo, hi) ((d.pts[p]).lo, (d.pts[p]).hi) = true := by
    rw [HQ.out, inside_iff]
    exact ⟨by show q.lo ≤ lo; omega, by show lo ≤ hi; omega, by show hi ≤ q.hi; omega⟩
  have HIN := Lib.hid hin
  clear hin
  · refine goS_step 3 rfl fun K Q hK hQ => ?_
    simp only [cd3, code3, Try.f3, Option.getD_some, Cy.sqL, Cy.sqR]
    go_wp2_with (go_at_call 8; refine (rained_any _).mono ?_; rintro e w7 ⟨rfl, hb7⟩)
    exact piece_a2 hvv hB low2 hpost hY HD.out st2 hge HVD.out hpl HIN.out hyl hyd
end Go.Proofs.Ytpolipcicfjkiaa
/- TopRained's first tests. Conditions: as stated. -/
namespace Go.Proofs.Ytpolipcicfjkiaa
open Go.RowKit
open Go.Proofs.Ytpolipcicfjkiaa.Cy (stepD runD)

set_option maxRecDepth 100000 in
set_option maxHeartbeats 8000000 in
theorem piece_a0 {x0 x1 x2 x6 x7 x8 x9 x10 x11 x12 x13 x14 x15 x16 x17 x18 x19 x20 x21 x22 x23 x24 x25 x26 x27 x28 x29 x30 x31 x32 x33 x34 x35 x36 x37 x38 x39 x40 x41 x42 x43 x44 x45 x46 x47 x48 x49 x50 x51 x52 x53 x54 x55 x56 x57 x58 x59 x60 x61 x62 x63 x64 x65 x66 x67 x68 x69 x70 x71 x72 x73 x74 x75 x76 x77 x78 x79 x80 x81 x82 x83 x84 x85 x86 x87 x88 x89 x90 x91 x92 x93 x94 x95 x96 x97 x98 x99 x100 x101 x102 x103 x104 x105 x106 x107 x108 x109 x110 x111 x112 x113 x114 x115 x116 x117 x118 x119 x120 x121 x122 x123 x124 x125 x126 x127 x128 x129 x130 x131 x132 x133 x134 x135 x136 x137 x138 x139 x140 x141 x142 x143 x144 x145 x146 x147 x148 x149 x150 x151 x152 x153 x154 x155 x156 x157 x158 x159 x160 x161 x162 x163 x164 x165 x166 x167 x168 x169 x170 x171 x172 x173 x174 x175 x176 x177 x178 x179 x180 x181 x182 x183 x184 x185 x186 x187 x188 x189 x190 x191 x192 x193 x194 x195 x196 x197 x198 x199 x200 x201 x202 x203 x204 x205 x206 x207 x208 x209 x210 x211 x212 x213 x214 x215 x216 x217 x218 x219 x220 x221 x222 x223 x224 x225 x226 x227 x228 x229 x230 x231 x232 x233 x234 x235 x236 x237 x238 x239 x240 x241 x242 x243 x244 x245 x246 x247 x248 x249 x250 x251 x252 x253 x254 x255 x256 x257 x258 x259 x260 x261 x262 x263 x264 x265 x266 x267 x268 x269 x270 x271 x272 x273 x274 x275 x276 x277 x278 x279 x280 x281 x282 x283 x284 x285 x286 x287 x288 x289 x290 x291 x292 x293 x294 x295 x296 : Value} {B : Nat} {w0 : World} {Post : Value → World → Prop} {c0 : Nat → Cy.Cls} {vv V : World} {y : CY} {d : DLine} {pv dp dq : Value} {pt lo hi day : Int} {by_ bd bx : Nat} (hvv : vv.heap = (Cy.view c0 0 w0).heap) (hB : vv.heap.size = B) (hlow : Cy.BelowH B vv V) (hpost : ∀ w, Cy.Old B w0 w → Post (.bool true) w)
    (hY : YAt vv (.agg #[I y.size, I y.start, pv]) y) (hD : LineAt vv (.agg #[dp, dq]) d) (hS : StX [(by_, #[I y.size, I y.start, pv], 24), (bd, #[dp, dq], 28), (bx, #[I pt, I lo, I hi, I day], 32)] V) (hge : B ≤ by_ ∧ B ≤ bd ∧ B ≤ bx) : GoS PA.prog (Cy.AtOk0 B w0 Post c0) (Go.Conc.base 3) [] ([] ++ [Cy.trap]) (cd3 1) ⟨#[x0, x1, x2, .pointer (some ⟨by_, 0, none⟩), .pointer (some ⟨bd, 0, none⟩), .pointer (some ⟨bx, 0, none⟩), x6, x7, x8, x9, x10, x11, x12, x13, x14, x15, x16, x17, x18, x19, x20, x21, x22, x23, x24, x25, x26, x27, x28, x29, x30, x31, x32, x33, x34, x35, x36, x37, x38, x39, x40, x41, x42, x43, x44, x45, x46, x47, x48, x49, x50, x51, x52, x53, x54, x55, x56, x57, x58, x59, x60, x61, x62, x63, x64, x65, x66, x67, x68, x69, x70, x71, x72, x73, x74, x75, x76, x77, x78, x79, x80, x81, x82, x83, x84, x85, x86, x87, x88, x89, x90, x91, x92, x93, x94, x95, x96, x97, x98, x99, x100, x101, x102, x103, x104, x105, x106, x107, x108, x109, x110, x111, x112, x113, x114, x115, x116, x117, x118, x119, x120, x121, x122, x123, x124, x125, x126, x127, x128, x129, x130, x131, x132, x133, x134, x135, x136, x137, x138, x139, x140, x141, x142, x143, x144, x145, x146, x147, x148, x149, x150, x151, x152, x153, x154, x155, x156, x157, x158, x159, x160, x161, x162, x163, x164, x165, x166, x167, x168, x169, x170, x171, x172, x173, x174, x175, x176, x177, x178, x179, x180, x181, x182, x183, x184, x185, x186, x187, x188, x189, x190, x191, x192, x193, x194, x195, x196, x197, x198, x199, x200, x201, x202, x203, x204, x205, x206, x207, x208, x209, x210, x211, x212, x213, x214, x215, x216, x217, x218, x219, x220, x221, x222, x223, x224, x225, x226, x227, x228, x229, x230, x231, x232, x233, x234, x235, x236, x237, x238, x239, x240, x241, x242, x243, x244, x245, x246, x247, x248, x249, x250, x251, x252, x253, x254, x255, x256, x257, x258, x259, x260, x261, x262, x263, x264, x265, x266, x267, x268, x269, x270, x271, x272, x273, x274, x275, x276, x277, x278, x279, x280, x281, x282, x283, x284, x285, x286, x287, x288, x289, x290, x291, x292, x293, x294, x295, x296], []⟩ V := by
  have hYV : ∀ {V' : World}, Cy.BelowH B vv V' → YAt V' (.agg #[I y.size, I y.start, pv]) y := fun h => hY.belowH (by rw [hB]; exact h)
  have hDV : ∀ {V' : World}, Cy.BelowH B vv V' → LineAt V' (.agg #[dp, dq]) d := fun h => LineAt.belowH hD (by rw [hB]; exact h)
  have box : ∀ {V' : World}, StX [(by_, #[I y.size, I y.start, pv], 24), (bd, #[dp, dq], 28), (bx, #[I pt, I lo, I hi, I day], 32)] V' → (V'.cell? ⟨by_, 0, none⟩ = some (I y.size) ∧ V'.cell? ⟨by_, 1, none⟩ = some (I y.start) ∧ V'.cell? ⟨by_, 2, none⟩ = some pv) ∧ (V'.cell? ⟨bd, 0, none⟩ = some dp ∧ V'.cell? ⟨bd, 1, none⟩ = some dq) ∧ V'.cell? ⟨bx, 0, none⟩ = some (I pt) ∧ V'.cell? ⟨bx, 1, none⟩ = some (I lo) ∧ V'.cell? ⟨bx, 2, none⟩ = some (I hi) ∧ V'.cell? ⟨bx, 3, none⟩ = some (I day) := fun {V'} h =>
    ⟨⟨Cy.cell_blk (i := 0) (h (by_, #[I y.size, I y.start, pv], 24) (by simp)) rfl, Cy.cell_blk (i := 1) (h (by_, #[I y.size, I y.start, pv], 24) (by simp)) rfl, Cy.cell_blk (i := 2) (h (by_, #[I y.size, I y.start, pv], 24) (by simp)) rfl⟩,
      ⟨Cy.cell_blk (i := 0) (h (bd, #[dp, dq], 28) (by simp)) rfl, Cy.cell_blk (i := 1) (h (bd, #[dp, dq], 28) (by simp)) rfl⟩,
      Cy.cell_blk (i := 0) (h (bx, #[I pt, I lo, I hi, I day], 32) (by simp)) rfl, Cy.cell_blk (i := 1) (h (bx, #[I pt, I lo, I hi, I day], 32) (by simp)) rfl, Cy.cell_blk (i := 2) (h (bx, #[I pt, I lo, I hi, I day], 32) (by simp)) rfl, Cy.cell_blk (i := 3) (h (bx, #[I pt, I lo, I hi, I day], 32) (by simp)) rfl⟩
  obtain ⟨⟨c0, c1, c2⟩, ⟨d0, d1⟩, z0, z1, z2, z3⟩ := box hS
  have hsB := hlow.size
  have hD0 := hD
  obtain ⟨pv', ov', e, hpts, -⟩ := hD0
  obtain ⟨rfl, rfl⟩ : pv' = dp ∧ ov' = dq := by
    simp only [Value.agg.injEq] at e
    have e := congrArg Array.toList e
    simp at e
    exact ⟨e.1.symm, e.2.symm⟩
  obtain ⟨A, cp, hdp, -, -, -⟩ := hpts.open_
  have hY0 := hY
  obtain ⟨pv2, e2, hpy⟩ := hY0
  obtain rfl : pv2 = pv := by
    simp only [Value.agg.injEq] at e2
    have e2 := congrArg Array.toList e2
    simp at e2
    exact e2.symm
  obtain ⟨A2, cp2, hpv, -, -, -⟩ := hpy.open_
  have HDD := Lib.hid hD
  have HYY := Lib.hid hY
  clear e e2 hpts hpy hD hY
  subst hdp hpv
  by_cases h0 : (40 : Int) < (y.days.length : Int)
  · refine goS_step 1 rfl fun K Q hK hQ => ?_
    simp only [cd3, code3, Try.f3, Option.getD_some, Cy.sqL, Cy.sqR]
    go_wp2_with (go_at_call 8; refine (rained_any _).mono ?_; rintro e w7 ⟨rfl, hb7⟩)
    have hl7 := low_ofH hB hlow hb7
    exact end_here0 rfl rfl hpost (hB_of hvv hl7) (by have := hl7.size; omega)
  cases h1 : farD d
  rotate_left
  · have HF := Lib.hid h1
    clear h1
    refine goS_step 1 rfl fun K Q hK hQ => ?_
    simp only [cd3, code3, Try.f3, Option.getD_some, Cy.sqL, Cy.sqR]
    go_wp2_with (first | (go_at_call 4; refine (far_any _ d _ (hDV hlow)).mono ?_; rintro e w1 ⟨rfl, hb1⟩; rw [HF.out]; have low1 := low_of hB hlow hb1; have st1 := hS.below hb1.block; obtain ⟨⟨e0, e1, e2⟩, ⟨e3, e4⟩, e5, e6, e7, e8⟩ := box st1; have LW := Lib.hid low1; have SW := Lib.hid st1; clear low1 st1 hb1) | (go_at_call 8; refine (rained_any _).mono ?_; rintro e w7 ⟨rfl, hb7⟩))
    have hl7 := low_ofH hB LW.out hb7
    exact end_here0 rfl rfl hpost (hB_of hvv hl7) (by have := hl7.size; omega)
  have HF := Lib.hid h1
  have hl1 : d.odds.length ≤ 1000 := by simp [farD] at h1; omega
  have hl2 : d.pts.length ≤ 1000 := by simp [farD] at h1; omega
  clear h1
  cases h2 : valid d
  · have HC := Lib.hid (show chk d = 60 by simp [chk, h2])
    clear h2
    refine goS_step 1 rfl fun K Q hK hQ => ?_
    simp only [cd3, code3, Try.f3, Option.getD_some, Cy.sqL, Cy.sqR]
    go_wp2_with (first | (go_at_call 4; refine (far_any _ d _ (hDV hlow)).mono ?_; rintro e w1 ⟨rfl, hb1⟩; rw [HF.out]; have low1 := low_of hB hlow hb1; have st1 := hS.below hb1.block; obtain ⟨⟨e0, e1, e2⟩, ⟨e3, e4⟩, e5, e6, e7, e8⟩ := box st1; have LW := Lib.hid low1; have SW := Lib.hid st1; clear low1 st1 hb1) | (go_at_call 5; refine (rCheck_any _ d _ (hDV LW.out) hl1 hl2).mono ?_; rintro e w2 ⟨rfl, hb2⟩; rw [HC.out]; have low2 := low_of hB LW.out hb2; have st2 := SW.out.below hb2.block; obtain ⟨⟨g0, g1, g2⟩, ⟨g3, g4⟩, g5, g6, g7, g8⟩ := box st2; have LX := Lib.hid low2; have SX := Lib.hid st2; clear low2 st2 hb2) | (go_at_call 8; refine (rained_any _).mono ?_; rintro e w7 ⟨rfl, hb7⟩))
    have hl7 := low_ofH hB LX.out hb7
    exact end_here0 rfl rfl hpost (hB_of hvv hl7) (by have := hl7.size; omega)
  have HC := Lib.hid (show chk d = 0 by simp [chk, h2])
  have HV := Lib.hid h2
  clear h2
  by_cases h3 : (d.pts.length : Int) < (y.days.length : Int)
  · -- more days than points
    refine goS_step 1 rfl fun K Q hK hQ => ?_
    simp only [cd3, code3, Try.f3, Option.getD_some, Cy.sqL, Cy.sqR]
    go_wp2_with (first | (go_at_call 4; refine (far_any _ d _ (hDV hlow)).mono ?_; rintro e w1 ⟨rfl, hb1⟩; rw [HF.out]; have low1 := low_of hB hlow hb1; have st1 := hS.below hb1.block; obtain ⟨⟨e0, e1, e2⟩, ⟨e3, e4⟩, e5, e6, e7, e8⟩ := box st1; have LW := Lib.hid low1; have SW := Lib.hid st1; clear low1 st1 hb1) | (go_at_call 5; refine (rCheck_any _ d _ (hDV LW.out) hl1 hl2).mono ?_; rintro e w2 ⟨rfl, hb2⟩; rw [HC.out]; have low2 := low_of hB LW.out hb2; have st2 := SW.out.below hb2.block; obtain ⟨⟨g0, g1, g2⟩, ⟨g3, g4⟩, g5, g6, g7, g8⟩ := box st2; have LX := Lib.hid low2; have SX := Lib.hid st2; clear low2 st2 hb2) | (go_at_call 8; refine (rained_any _).mono ?_; rintro e w7 ⟨rfl, hb7⟩))
    have hl7 := low_ofH hB LX.out hb7
    exact end_here0 rfl rfl hpost (hB_of hvv hl7) (by have := hl7.size; omega)
  cases h4 : oneB d
  · have HO := Lib.hid h4
    clear h4
    refine goS_step 1 rfl fun K Q hK hQ => ?_
    simp only [cd3, code3, Try.f3, Option.getD_some, Cy.sqL, Cy.sqR]
    go_wp2_with (first | (go_at_call 4; refine (far_any _ d _ (hDV hlow)).mono ?_; rintro e w1 ⟨rfl, hb1⟩; rw [HF.out]; have low1 := low_of hB hlow hb1; have st1 := hS.below hb1.block; obtain ⟨⟨e0, e1, e2⟩, ⟨e3, e4⟩, e5, e6, e7, e8⟩ := box st1; have LW := Lib.hid low1; have SW := Lib.hid st1; clear low1 st1 hb1) | (go_at_call 5; refine (rCheck_any _ d _ (hDV LW.out) hl1 hl2).mono ?_; rintro e w2 ⟨rfl, hb2⟩; rw [HC.out]; have low2 := low_of hB LW.out hb2; have st2 := SW.out.below hb2.block; obtain ⟨⟨g0, g1, g2⟩, ⟨g3, g4⟩, g5, g6, g7, g8⟩ := box st2; have LX := Lib.hid low2; have SX := Lib.hid st2; clear low2 st2 hb2) | (go_at_call 6; refine (one_any _ d _ (hDV LX.out) HV.out).mono ?_; rintro e w3 ⟨rfl, hb3⟩; rw [HO.out]; have low3 := low_of hB LX.out hb3; have st3 := SX.out.below hb3.block; obtain ⟨⟨i0, i1, i2⟩, ⟨i3, i4⟩, i5, i6, i7, i8⟩ := box st3; have LY := Lib.hid low3; have SY := Lib.hid st3; clear low3 st3 hb3) | (go_at_call 8; refine (rained_any _).mono ?_; rintro e w7 ⟨rfl, hb7⟩))
    have hl7 := low_ofH hB LY.out hb7
    exact end_here0 rfl rfl hpost (hB_of hvv hl7) (by have := hl7.size; omega)
  have HO := Lib.hid h4
  clear h4
  cases h5 : isPt d pt
  · have HP := Lib.hid h5
    clear h5
    refine goS_step 1 rfl fun K Q hK hQ => ?_
    simp only [cd3, code3, Try.f3, Option.getD_some, Cy.sqL, Cy.sqR]
    go_wp2_with (first | (go_at_call 4; refine (far_any _ d _ (hDV hlow)).mono ?_; rintro e w1 ⟨rfl, hb1⟩; rw [HF.out]; have low1 := low_of hB hlow hb1; have st1 := hS.below hb1.block; obtain ⟨⟨e0, e1, e2⟩, ⟨e3, e4⟩, e5, e6, e7, e8⟩ := box st1; have LW := Lib.hid low1; have SW := Lib.hid st1; clear low1 st1 hb1) | (go_at_call 5; refine (rCheck_any _ d _ (hDV LW.out) hl1 hl2).mono ?_; rintro e w2 ⟨rfl, hb2⟩; rw [HC.out]; have low2 := low_of hB LW.out hb2; have st2 := SW.out.below hb2.block; obtain ⟨⟨g0, g1, g2⟩, ⟨g3, g4⟩, g5, g6, g7, g8⟩ := box st2; have LX := Lib.hid low2; have SX := Lib.hid st2; clear low2 st2 hb2) | (go_at_call 6; refine (one_any _ d _ (hDV LX.out) HV.out).mono ?_; rintro e w3 ⟨rfl, hb3⟩; rw [HO.out]; have low3 := low_of hB LX.out hb3; have st3 := SX.out.below hb3.block; obtain ⟨⟨i0, i1, i2⟩, ⟨i3, i4⟩, i5, i6, i7, i8⟩ := box st3; have LY := Lib.hid low3; have SY := Lib.hid st3; clear low3 st3 hb3) | (go_at_call 7; refine (rIsPt_any _ d _ _ (hDV LY.out) hl2).mono ?_; rintro e w4 ⟨rfl, hb4⟩; rw [HP.out]; have low4 := low_of hB LY.out hb4; have st4 := SY.out.below hb4.block; have LZ := Lib.hid low4; have SZ := Lib.hid st4; clear low4 st4 hb4) | (go_at_call 8; refine (rained_any _).mono ?_; rintro e w7 ⟨rfl, hb7⟩))
    have hl7 := low_ofH hB LZ.out hb7
    exact end_here0 rfl rfl hpost (hB_of hvv hl7) (by have := hl7.size; omega)
  have HP := Lib.hid h5
  obtain ⟨hp0, hp1⟩ := isPt_spec h5
  clear h5
  obtain ⟨p, rfl⟩ := Int.eq_ofNat_of_zero_le hp0
  refine goS_step 1 rfl fun K Q hK hQ => ?_
  simp only [cd3, code3, Try.f3, Option.getD_some, Cy.sqL, Cy.sqR]
  go_wp2_with (first | (go_at_call 4; refine (far_any _ d _ (hDV hlow)).mono ?_; rintro e w1 ⟨rfl, hb1⟩; rw [HF.out]; have low1 := low_of hB hlow hb1; have st1 := hS.below hb1.block; obtain ⟨⟨e0, e1, e2⟩, ⟨e3, e4⟩, e5, e6, e7, e8⟩ := box st1; have LW := Lib.hid low1; have SW := Lib.hid st1; clear low1 st1 hb1) | (go_at_call 5; refine (rCheck_any _ d _ (hDV LW.out) hl1 hl2).mono ?_; rintro e w2 ⟨rfl, hb2⟩; rw [HC.out]; have low2 := low_of hB LW.out hb2; have st2 := SW.out.below hb2.block; obtain ⟨⟨g0, g1, g2⟩, ⟨g3, g4⟩, g5, g6, g7, g8⟩ := box st2; have LX := Lib.hid low2; have SX := Lib.hid st2; clear low2 st2 hb2) | (go_at_call 6; refine (one_any _ d _ (hDV LX.out) HV.out).mono ?_; rintro e w3 ⟨rfl, hb3⟩; rw [HO.out]; have low3 := low_of hB LX.out hb3; have st3 := SX.out.below hb3.block; obtain ⟨⟨i0, i1, i2⟩, ⟨i3, i4⟩, i5, i6, i7, i8⟩ := box st3; have LY := Lib.hid low3; have SY := Lib.hid st3; clear low3 st3 hb3) | (go_at_call 7; refine (rIsPt_any _ d _ _ (hDV LY.out) hl2).mono ?_; rintro e w4 ⟨rfl, hb4⟩; rw [HP.out]; have low4 := low_of hB LY.out hb4; have st4 := SY.out.below hb4.block; have LZ := Lib.hid low4; have SZ := Lib.hid st4; clear low4 st4 hb4))
  exact piece_a1 hvv hB LZ.out hpost HYY.out HDD.out SZ.out hge HV.out (by omega) (by omega) (by omega)
end Go.Proofs.Ytpolipcicfjkiaa
/- TopRained from its start. Conditions: as stated. -/
namespace Go.Proofs.Ytpolipcicfjkiaa
open Go.RowKit
open Go.Proofs.Ytpolipcicfjkiaa.Cy (stepD runD)

set_option maxRecDepth 100000 in
set_option maxHeartbeats 8000000 in
theorem start_ok {B : Nat} {w0 : World} {Post : Value → World → Prop} {c0 : Nat → Cy.Cls} {v : World} {y : CY} {d : DLine} {pv dp dq : Value} {pt lo hi day : Int} (hvv : v.heap = (Cy.view c0 0 w0).heap) (hB : v.heap.size = B) (hpost : ∀ w, Cy.Old B w0 w → Post (.bool true) w)
    (hY : YAt v (.agg #[I y.size, I y.start, pv]) y) (hD : LineAt v (.agg #[dp, dq]) d) : Cy.Ok0 B w0 Post c0 ((Go.Conc.base 3).at ⟨#[.agg #[I y.size, I y.start, pv], .agg #[dp, dq], .agg #[I pt, I lo, I hi, I day], undef, undef, undef, undef, undef, undef, undef, undef, undef, undef, undef, undef, undef, undef, undef, undef, undef, undef, undef, undef, undef, undef, undef, undef, undef, undef, undef, undef, undef, undef, undef, undef, undef, undef, undef, undef, undef, undef, undef, undef, undef, undef, undef, undef, undef, undef, undef, undef, undef, undef, undef, undef, undef, undef, undef, undef, undef, undef, undef, undef, undef, undef, undef, undef, undef, undef, undef, undef, undef, undef, undef, undef, undef, undef, undef, undef, undef, undef, undef, undef, undef, undef, undef, undef, undef, undef, undef, undef, undef, undef, undef, undef, undef, undef, undef, undef, undef, undef, undef, undef, undef, undef, undef, undef, undef, undef, undef, undef, undef, undef, undef, undef, undef, undef, undef, undef, undef, undef, undef, undef, undef, undef, undef, undef, undef, undef, undef, undef, undef, undef, undef, undef, undef, undef, undef, undef, undef, undef, undef, undef, undef, undef, undef, undef, undef, undef, undef, undef, undef, undef, undef, undef, undef, undef, undef, undef, undef, undef, undef, undef, undef, undef, undef, undef, undef, undef, undef, undef, undef, undef, undef, undef, undef, undef, undef, undef, undef, undef, undef, undef, undef, undef, undef, undef, undef, undef, undef, undef, undef, undef, undef, undef, undef, undef, undef, undef, undef, undef, undef, undef, undef, undef, undef, undef, undef, undef, undef, undef, undef, undef, undef, undef, undef, undef, undef, undef, undef, undef, undef, undef, undef, undef, undef, undef, undef, undef, undef, undef, undef, undef, undef, undef, undef, undef, undef, undef, undef, undef, undef, undef, undef, undef, undef, undef, undef, undef, undef, undef, undef, undef, undef, undef, undef, undef, undef, undef, undef, undef, undef, undef, undef, undef, undef, undef, undef, undef, undef, undef, undef, undef, undef, undef, undef, undef, undef, undef, undef, undef, undef, undef, undef, undef, undef, undef, undef, undef, undef, undef, undef, undef, undef, undef, undef, undef], []⟩ [.code (cd3 0)]) [] v := by
  refine Cy.tree_ok0 (Cy.tame_of ⟨rfl, rfl, rfl, (show ([Item.code (cd3 0)]).all Cy.tameItem = true by decide +kernel), ⟨_, _, PA.func3, Try.func3, rfl⟩⟩ fun f hf => by simp at hf) (fun V hV => ?_) (by omega)
  have hvv2 : V.heap = (Cy.view c0 0 w0).heap := hV.trans hvv
  have hB2 : V.heap.size = B := by rw [hV]; exact hB
  have hY2 : YAt V (.agg #[I y.size, I y.start, pv]) y := hY.elim fun q h => ⟨q, h.1, pts_heap h.2 hV⟩
  have hD2 : LineAt V (.agg #[dp, dq]) d := LineAt.belowH hD ⟨by rw [hV]; exact Nat.le_refl _, fun k _ => by rw [hV]⟩
  have HB3 : Below V.heap.size V (((V.alloc (.cells #[I y.size, I y.start, pv] 24)).alloc (.cells #[dp, dq] 28)).alloc (.cells #[I pt, I lo, I hi, I day] 32)) := (((Below.refl _ _).alloc (Nat.le_refl _) _).alloc (by simp) _).alloc (by simp; omega) _
  have b0 : (((V.alloc (.cells #[I y.size, I y.start, pv] 24)).alloc (.cells #[dp, dq] 28)).alloc (.cells #[I pt, I lo, I hi, I day] 32)).heap[V.heap.size]? = some (.cells #[I y.size, I y.start, pv] 24) := (Cy.hb_old (Cy.hb_old (Cy.hb_new V _) _) _).blk
  have b1 : (((V.alloc (.cells #[I y.size, I y.start, pv] 24)).alloc (.cells #[dp, dq] 28)).alloc (.cells #[I pt, I lo, I hi, I day] 32)).heap[V.heap.size + 1]? = some (.cells #[dp, dq] 28) := by
    have := (Cy.hb_old (Cy.hb_new (V.alloc (.cells #[I y.size, I y.start, pv] 24)) (.cells #[dp, dq] 28)) (.cells #[I pt, I lo, I hi, I day] 32)).blk
    simpa using this
  have b2 : (((V.alloc (.cells #[I y.size, I y.start, pv] 24)).alloc (.cells #[dp, dq] 28)).alloc (.cells #[I pt, I lo, I hi, I day] 32)).heap[V.heap.size + 2]? = some (.cells #[I pt, I lo, I hi, I day] 32) := by
    have := (Cy.hb_new ((V.alloc (.cells #[I y.size, I y.start, pv] 24)).alloc (.cells #[dp, dq] 28)) (.cells #[I pt, I lo, I hi, I day] 32)).blk
    simpa using this
  have H1 := Lib.hid hvv2
  have H2 := Lib.hid hB2
  clear hvv2 hB2 hV hvv hB
  show GoS _ _ _ [] ([] ++ [Cy.trap]) (cd3 0) _ V
  refine goS_step 0 rfl fun K Q hK hQ => ?_
  simp only [cd3, code3, Try.f3, Option.getD_some, Cy.sqL]
  go_wp2_with fail
  have hB2 := H2.out
  refine piece_a0 (vv := V) H1.out hB2 (hB2 ▸ Cy.BelowH.of HB3) (pt := pt) (lo := lo) (hi := hi) (day := day) hpost hY2 hD2 ?_ ⟨by omega, by omega, by omega⟩
  intro q hq
  simp only [List.mem_cons, List.not_mem_nil, or_false] at hq
  rcases hq with rfl | rfl | rfl
  · exact b0
  · exact b1
  · exact b2
end Go.Proofs.Ytpolipcicfjkiaa
/- How the arguments of these rows open: a line; what a row's end asks. -/
namespace Go.Proofs.Ytpolipcicfjkiaa
open Go.ChangeShapes Go.WideShapes Go.ChangeAt Go.RowKit Go.Deep Go.Joins

theorem Try.own : ownKnob Try.prog.godebug = none := by kernel_rfl
theorem Try.laidOut : laidOutB Try.prog = true := by kernel_rfl

section
variable {H : Type} {enc : TypeId × Value → H} {P : Program}
/-- The row's last step, where 'Below' is known alone (the guide's lemma). -/
theorem post_of_below {f : Func} {s : ChangeSpec} {apart fresh handsOn again : Bool} {W W' : World} {args : Array Value} {v : Value} {ds gs : List (DataW H)} {before pa pv : List MemPlace}
    (hW : DataW.Whole enc P f.params.toList s.vars apart W args.toList ds gs before)
    (hres : ∀ (b : Nat) (sp : Nat → Bool) (hd : Bool), DataW.TrodAll enc P W' b sp hd f.resultTypes.toList (v.resultList f.resultTypes.size) (s.fn H (ds ++ gs)).results [])
    (hargs : ∀ sp : Nat → Bool, (∀ p ∈ before, sp p.block = true) → DataW.TrodAll enc P W' 0 sp true f.params.toList args.toList (s.fn H (ds ++ gs)).args pa)
    (hvars : ∀ sp : Nat → Bool, (∀ p ∈ before, sp p.block = true) → DataW.TrodVars enc P W' sp s.vars (s.fn H (ds ++ gs)).vars pv)
    (hps : before = pa ++ pv) (hb : Below W.heap.size W W')
    (hok : ∀ (j : Nat) (t : TypeId) (r : Value), f.resultTypes[j]? = some t → (v.resultList f.resultTypes.size)[j]? = some r → Value.okWide P W' .any 0 t r) :
    s.post enc P f apart fresh handsOn again W args v W' := by
  have hlt : ∀ p ∈ before, p.block < W.heap.size := fun p hp => hW.lt p hp
  have hold : ∀ p ∈ before, (fun b => decide (b < W.heap.size)) p.block = true := fun p hp => by simpa using hlt p hp
  refine ⟨ds, gs, before, [], pa, pv, hW, hres _ _ _, hargs _ hold, hvars _ hold, World.keptBut_mono (fun p hp => ⟨hp, ?_⟩) (hb.frame (· ∈ before)), fun _ => ?_⟩
  · rw [hps, List.mem_append] at hp
    exact Or.inr hp
  · obtain ⟨_, _, _, _, _, hz, hn⟩ := hW
    refine ⟨hok, _, _, ([] ++ pa) ++ pv, ⟨[] ++ pa, pv, trodAll_append (hargs _ (fun _ _ => rfl)) (hres _ _ _), hvars _ (fun _ _ => rfl), rfl, ?_, ?_⟩, ?_⟩
    · intro b off hp
      have hin : MemPlace.cell b off ∈ before := by rw [hps]; simpa using hp
      rw [hb.frozen (hlt _ hin)]
      exact hz b off hin
    · intro ha
      have := hn ha
      rw [hps] at this
      simpa using this
    · intro p hp _
      rw [hps]
      simpa using hp
end

section
variable {H : Type} {enc : TypeId × Value → H} {W : World} {b : Nat} {sp : Nat → Bool} {hd : Bool}
theorem int_cell {n : Nat} {cs : List Value} {y : DataW H × List MemPlace} (h : DataW.trod enc Try.prog W b sp hd n 3 cs = some y) : ∃ z : Int, cs = [I z] := by
  obtain ⟨z, e, _⟩ := DataW.trod_int Try.underlying3 h
  exact ⟨z, e⟩
set_option maxRecDepth 20000 in
theorem span_cells {n : Nat} {cs : List Value} {y : DataW H × List MemPlace} (h : DataW.trod enc Try.prog W b sp hd n 30 cs = some y) : ∃ x z : Int, cs = [I x, I z] := by
  obtain ⟨xs, m, _, _, hl, hx, hf⟩ := DataW.trod_struct Try.underlying30 h
  have hl2 : cs.length = 2 := hl.trans (by kernel_rfl)
  match cs, hl2 with
  | [c0, c1], _ =>
    have h0 := hf 0 _ rfl
    have h1 := hf 1 _ rfl
    have hxl : xs.length = 2 := hx
    rw [List.getElem?_eq_getElem (show 0 < xs.length by omega)] at h0
    rw [List.getElem?_eq_getElem (show 1 < xs.length by omega)] at h1
    obtain ⟨x, e0⟩ := int_cell h0
    obtain ⟨z, e1⟩ := int_cell h1
    have hc : Try.prog.cellsOf 3 = 1 := by kernel_rfl
    simp [hc] at e0 e1
    exact ⟨x, z, by rw [e0, e1]⟩
set_option maxRecDepth 20000 in
theorem pt_cells {n : Nat} {cs : List Value} {y : DataW H × List MemPlace} (h : DataW.trod enc Try.prog W b sp hd n 39 cs = some y) : ∃ p : Pt, cs = p.cells := by
  obtain ⟨xs, m, _, _, hl, hx, hf⟩ := DataW.trod_struct Try.underlying39 h
  have hl3 : cs.length = 3 := hl.trans (by kernel_rfl)
  match cs, hl3 with
  | [c0, c1, c2], _ =>
    have h0 := hf 0 _ rfl
    have h1 := hf 1 _ rfl
    have hxl : xs.length = 2 := hx
    rw [List.getElem?_eq_getElem (show 0 < xs.length by omega)] at h0
    rw [List.getElem?_eq_getElem (show 1 < xs.length by omega)] at h1
    obtain ⟨x, z, e0⟩ := span_cells h0
    obtain ⟨k, e1⟩ := int_cell h1
    have hc : Try.prog.cellsOf 3 = 1 := by kernel_rfl
    have hc2 : Try.prog.cellsOf 30 = 2 := by kernel_rfl
    simp [hc2] at e0
    simp [hc] at e1
    exact ⟨⟨x, z, k⟩, by rw [e0.1, e0.2, e1]; rfl⟩

theorem spot_none {w : World} {a : Addr} {v : Value} (h : w.cell? a = some v) : a = ⟨a.block, a.off, none⟩ := by
  obtain ⟨bl, of, s⟩ := a
  cases s with
  | none => rfl
  | some k =>
    unfold World.cell? at h
    split at h <;> simp at h

/-- A list of cells by elements. -/
theorem reads_of {w : World} {A : Addr} {len cap size : Nat} (hsz : 0 < size) (hl : len ≤ cap) (hc : cap ≤ 9223372036854775807) (xs : List Value) (hx : xs.length = len * size)
    (h : ∀ j u, xs[j]? = some u → w.cell? (A.add j) = some u) : Go.Proofs.Ytpolipcicfjkiaa.Reads w size (.slice (some A) len cap) len xs := by
  refine ⟨hx, _, _, rfl, hl, hc, fun hn => ?_⟩
  have hp : 0 < xs.length := by rw [hx]; exact Nat.mul_pos hn hsz
  have h0 := h 0 xs[0] (List.getElem?_eq_getElem hp)
  have hA : A.add 0 = A := by simp [Addr.add]
  rw [hA] at h0
  have e := spot_none h0
  refine ⟨A.block, A.off, by rw [← e], fun j u hu => ?_⟩
  rw [← add_plain, ← e]
  exact h j u hu

theorem ints_of {n : Nat} {c : Value} {y : DataW H × List MemPlace} (h : DataW.trod enc Try.prog W b sp hd n 26 [c] = some y) : ∃ xs : List Int, Ints W c xs := by
  rcases open_ints Try.underlying26 Try.underlying3 (by kernel_rfl) h with ⟨e, _⟩ | ⟨a, len, cap, zs, e, _, hl, hm, hz, _, hcell, _⟩
  · simp only [List.cons.injEq, and_true] at e
    subst e
    exact ⟨[], ⟨rfl, none, 0, rfl, by simp, by omega, fun h => absurd h (by simp)⟩⟩
  · simp only [List.cons.injEq, and_true] at e
    subst e
    have hlz : len ≤ zs.length := by rw [hz]; split <;> omega
    have hl1 : (zs.take len).length = len := by simp; omega
    refine ⟨zs.take len, ?_⟩
    unfold Ints
    rw [hl1]
    refine reads_of (by omega) hl (by simpa [maxLen] using hm) _ (by simp; omega) (fun j u hu => ?_)
    rw [List.getElem?_map] at hu
    cases hj : (zs.take len)[j]? with
    | none => rw [hj] at hu; simp at hu
    | some z =>
      rw [hj] at hu
      simp only [Option.map_some, Option.some.injEq] at hu
      subst hu
      have hj1 := (List.getElem?_eq_some_iff.1 hj).1
      have hjz : j < zs.length := by simp at hj1; omega
      rw [hcell j hjz]
      have : zs[j]? = some z := by rw [List.getElem?_take] at hj; split at hj <;> simp_all
      simp [List.getD, this]

theorem ptCells_get (ps : List Pt) (j : Nat) (u : Value) (h : (ptCells ps)[j]? = some u) : ∃ (i : Nat) (hi : i < ps.length) (r : Nat), r < 3 ∧ j = i * 3 + r ∧ ps[i].cells[r]? = some u := by
  have hj := (List.getElem?_eq_some_iff.1 h).1
  rw [ptCells_length] at hj
  have hi : j / 3 < ps.length := by omega
  refine ⟨j / 3, hi, j % 3, by omega, by omega, ?_⟩
  obtain ⟨h0, h1, h2⟩ := ptCells_at ps (j / 3) hi
  have hr : j % 3 = 0 ∨ j % 3 = 1 ∨ j % 3 = 2 := by omega
  rcases hr with hr | hr | hr
  · rw [show j = j / 3 * 3 by omega, h0] at h; rw [hr]; exact h
  · rw [show j = j / 3 * 3 + 1 by omega, h1] at h; rw [hr]; exact h
  · rw [show j = j / 3 * 3 + 2 by omega, h2] at h; rw [hr]; exact h

theorem pts_of {n : Nat} {c : Value} {y : DataW H × List MemPlace} (h : DataW.trod enc Try.prog W b (fun _ => true) hd n 25 [c] = some y) : ∃ ps : List Pt, Pts W c ps := by
  rcases open_slice Try.underlying25 h with ⟨e, _⟩ | ⟨a, len, cap, m, k, D, Pl, e, _, hl, hm, hmm, _, hi⟩
  · simp only [List.cons.injEq, and_true] at e
    subst e
    exact ⟨[], ⟨rfl, none, 0, rfl, by simp, by omega, fun h => absurd h (by simp)⟩⟩
  · simp only [List.cons.injEq, and_true] at e
    subst e
    have hC : Try.prog.cellsOf 39 = 3 := by kernel_rfl
    rw [hC] at hi
    have hmc : m = cap := by simpa using hmm
    have hex : ∀ i : Fin len, ∃ p : Pt, ∀ r u, p.cells[r]? = some u → W.cell? (a.add (i.1 * 3 + r)) = some u := by
      intro i
      obtain ⟨cs', h1, h2⟩ := hi i.1 (by have := i.2; omega)
      obtain ⟨p, rfl⟩ := pt_cells h2
      obtain ⟨_, _, h3⟩ := World.cells?_some h1
      refine ⟨p, fun r u hu => ?_⟩
      have hr : r < 3 := (List.getElem?_eq_some_iff.1 hu).1
      have := h3 r hr
      rw [hu, Go.Deep.add_add] at this
      exact this
    obtain ⟨F, hF⟩ : ∃ F : Fin len → Pt, ∀ i r u, (F i).cells[r]? = some u → W.cell? (a.add (i.1 * 3 + r)) = some u := ⟨fun i => (hex i).choose, fun i => (hex i).choose_spec⟩
    have hlen : (List.ofFn F).length = len := by simp
    refine ⟨List.ofFn F, ?_⟩
    unfold Pts
    rw [hlen]
    refine reads_of (by omega) hl (by simpa [maxLen] using hm) _ (by rw [ptCells_length, hlen]) (fun j u hu => ?_)
    obtain ⟨i, hil, r, hr, rfl, hu'⟩ := ptCells_get _ j u hu
    rw [List.getElem_ofFn] at hu'
    exact hF ⟨i, by rw [hlen] at hil; exact hil⟩ r u hu'

set_option maxRecDepth 20000 in
theorem open_line {base : Nat} {v : Value} {d : DataW H} {p : List MemPlace} (hval : Value.okWide Try.prog W .any base 28 v) (h : DataW.Trod enc Try.prog W 0 (fun _ => true) true 28 v d p) : ∃ D : DLine, LineAt W v D := by
  obtain ⟨v0, v1, y0, y1, n, rfl, _, _, h0, h1⟩ := open_agg2 Try.underlying28 (by kernel_rfl) (by kernel_rfl) hval h
  obtain ⟨ps, hp⟩ := pts_of h0
  obtain ⟨xs, hx⟩ := ints_of h1
  exact ⟨⟨ps, xs⟩, _, _, rfl, hp, hx⟩
/-- An argument reads behind the call as before it. -/
theorem stays {t : TypeId} {W' : World} {v : Value} {d : DataW H} {ps qs : List MemPlace} (hr : Try.prog.readableRec t = true) (hrow : t < Try.prog.types.size) (h : DataW.Trod enc Try.prog W 0 (fun _ => true) true t v d ps) (hb : Below W.heap.size W W')
    (hlt : ∀ x ∈ qs, x.block < W.heap.size) (hin : ∀ x ∈ ps, x ∈ qs) (sp : Nat → Bool) (hsp : ∀ x ∈ qs, sp x.block = true) : DataW.Trod enc Try.prog W' 0 sp true t v d ps :=
  WideElems.Trod_stays Try.laidOut hr hrow h (fun x hx => hb.same (hlt x (hin x hx))) (fun x hx => hsp x (hin x hx))
end
end Go.Proofs.Ytpolipcicfjkiaa
