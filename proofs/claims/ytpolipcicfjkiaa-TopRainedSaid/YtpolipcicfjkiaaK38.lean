/- TopRained's Rations. Conditions: as stated. -/
import Derived.Test.YtpolipcicfjkiaaK37
namespace Go.Proofs.Ytpolipcicfjkiaa
open Go.RowKit
open Go.Proofs.Ytpolipcicfjkiaa.Cy (stepD runD)

set_option maxRecDepth 100000 in
set_option maxHeartbeats 8000000 in
theorem piece_c3 {x0 x1 x2 x3 x4 x6 x7 x8 x9 x11 x13 x14 x15 x16 x17 x18 x19 x20 x21 x22 x23 x24 x25 x26 x27 x28 x29 x30 x31 x32 x33 x34 x35 x36 x37 x38 x39 x40 x41 x42 x43 x44 x45 x46 x47 x48 x49 x50 x51 x52 x53 x54 x55 x56 x57 x58 x59 x60 x61 x62 x63 x64 x65 x66 x67 x68 x69 x70 x71 x72 x73 x74 x75 x76 x77 x78 x79 x80 x81 x82 x83 x84 x85 x86 x87 x88 x89 x90 x91 x92 x93 x94 x95 x96 x97 x98 x99 x100 x101 x102 x103 x104 x105 x106 x107 x108 x109 x110 x111 x112 x113 x114 x115 x116 x117 x118 x119 x120 x121 x122 x123 x124 x125 x126 x127 x128 x129 x130 x131 x132 x133 x134 x135 x136 x137 x138 x139 x140 x141 x142 x143 x144 x145 x146 x147 x148 x149 x150 x151 x152 x153 x154 x155 x156 x157 x158 x159 x160 x161 x162 x163 x164 x165 x166 x167 x168 x169 x170 x171 x172 x173 x174 x175 x176 x177 x178 x179 x180 x181 x182 x183 x184 x185 x186 x187 x188 x189 x190 x191 x192 x193 x194 x195 x196 x197 x198 x199 x200 x201 x202 x203 x204 x205 x206 x207 x208 x209 x210 x211 x212 x213 x214 x215 x216 x217 x218 x219 x220 x221 x222 x223 x224 x225 x226 x227 x228 x229 x230 x231 x232 x233 x234 x235 x236 x237 x238 x239 x240 x241 x242 x243 x244 x245 x246 x247 x248 x249 x250 x251 x252 x253 x254 x255 x256 x257 x258 x259 x260 x261 x262 x263 x264 x265 x266 x267 x268 x269 x270 x271 x272 x273 x274 x275 x276 x277 x278 x279 x280 x281 x282 x283 x284 x285 x286 x287 x288 x289 x290 x291 x292 x293 x294 x295 x296 : Value} {B : Nat} {w0 : World} {Post : Value → World → Prop} {ya yb : CY} {sya : Option Addr} {na ca fa : Nat} {dca : Array Value} {syb : Option Addr} {nb cb fb : Nat} {dcb : Array Value} {ba bb bx : Nat} {pt lo hi day : Int} {SX : List (Nat × Array Value × TypeId)} (C : Car B w0 Post ya yb sya na ca fa dca syb nb cb fb dcb ba bb bx pt lo hi day SX) {V : World} (hS : StX SX V) : GoS PA.prog (Cy.AtOk B w0 Post) (Go.Conc.base 3) [] ([] ++ [Cy.trap]) (cd3 23) ⟨#[x0, x1, x2, x3, x4, .pointer (some ⟨bx, 0, none⟩), x6, x7, x8, x9, .pointer (some ⟨ba, 0, none⟩), x11, .pointer (some ⟨bb, 0, none⟩), x13, x14, x15, x16, x17, x18, x19, x20, x21, x22, x23, x24, x25, x26, x27, x28, x29, x30, x31, x32, x33, x34, x35, x36, x37, x38, x39, x40, x41, x42, x43, x44, x45, x46, x47, x48, x49, x50, x51, x52, x53, x54, x55, x56, x57, x58, x59, x60, x61, x62, x63, x64, x65, x66, x67, x68, x69, x70, x71, x72, x73, x74, x75, x76, x77, x78, x79, x80, x81, x82, x83, x84, x85, x86, x87, x88, x89, x90, x91, x92, x93, x94, x95, x96, x97, x98, x99, x100, x101, x102, x103, x104, x105, x106, x107, x108, x109, x110, x111, x112, x113, x114, x115, x116, x117, x118, x119, x120, x121, x122, x123, x124, x125, x126, x127, x128, x129, x130, x131, x132, x133, x134, x135, x136, x137, x138, x139, x140, x141, x142, x143, x144, x145, x146, x147, x148, x149, x150, x151, x152, x153, x154, x155, x156, x157, x158, x159, x160, x161, x162, x163, x164, x165, x166, x167, x168, x169, x170, x171, x172, x173, x174, x175, x176, x177, x178, x179, x180, x181, x182, x183, x184, x185, x186, x187, x188, x189, x190, x191, x192, x193, x194, x195, x196, x197, x198, x199, x200, x201, x202, x203, x204, x205, x206, x207, x208, x209, x210, x211, x212, x213, x214, x215, x216, x217, x218, x219, x220, x221, x222, x223, x224, x225, x226, x227, x228, x229, x230, x231, x232, x233, x234, x235, x236, x237, x238, x239, x240, x241, x242, x243, x244, x245, x246, x247, x248, x249, x250, x251, x252, x253, x254, x255, x256, x257, x258, x259, x260, x261, x262, x263, x264, x265, x266, x267, x268, x269, x270, x271, x272, x273, x274, x275, x276, x277, x278, x279, x280, x281, x282, x283, x284, x285, x286, x287, x288, x289, x290, x291, x292, x293, x294, x295, x296], []⟩ V := by
  have c0 := Cy.cell_blk (i := 0) (hS _ C.ba) rfl
  have c1 := Cy.cell_blk (i := 1) (hS _ C.ba) rfl
  have c2 := Cy.cell_blk (i := 2) (hS _ C.ba) rfl
  simp only [List.getElem_toArray, List.getElem_cons_zero, List.getElem_cons_succ] at c0 c1 c2
  have hya : YAt V (.agg #[I ya.size, I ya.start, .slice sya na ca]) ya := C.A.at_ V fun h => hS _ (C.fa h)
  have hyb : ∀ {V' : World}, StX SX V' → YAt V' (.agg #[I yb.size, I yb.start, .slice syb nb cb]) yb := fun {V'} hS' => C.Bb.at_ V' fun h => hS' _ (C.fb h)
  have hla : ya.days.length ≤ 366 := by rw [C.A.len]; exact C.A.low.few
  have hlb : yb.days.length ≤ 366 := by rw [C.Bb.len]; exact C.Bb.low.few
  have HA := Lib.hid (show rationR ya = .tuple #[I (rationY ya), I 0] by unfold rationR; rw [if_pos C.va])
  have HB := Lib.hid (show rationR yb = .tuple #[I (rationY yb), I 0] by unfold rationR; rw [if_pos C.vb])
  obtain ⟨q1, q2, q3, q4, q5, q6⟩ := yValid_spec C.va
  have hle : rationY ya ≤ rationY yb := ration_nar C.nar (by omega) (by omega) (fun p hp => q6 p hp) C.va
  generalize rationY ya = r1 at *
  generalize rationY yb = r2 at *
  clear q1 q2 q3 q4 q5 q6
  refine goS_step 23 rfl fun K Q hK hQ => ?_
  simp only [cd3, code3, Try.f3, Option.getD_some, Cy.sqL, Cy.sqR]
  go_wp2_with (go_at_call 16; refine (yRation_any _ ya _ hya hla).mono ?_; rintro e w1 ⟨rfl, hb1⟩; rw [HA.out]; have hS1 := hS.below hb1.block)
  have f0 := Cy.cell_blk (i := 0) (hS1 _ C.bb) rfl
  have f1 := Cy.cell_blk (i := 1) (hS1 _ C.bb) rfl
  have f2 := Cy.cell_blk (i := 2) (hS1 _ C.bb) rfl
  simp only [List.getElem_toArray, List.getElem_cons_zero, List.getElem_cons_succ] at f0 f1 f2
  refine goS_step 24 rfl fun K Q hK hQ => ?_
  simp only [cd3, code3, Try.f3, Option.getD_some, Cy.sqL, Cy.sqR]
  go_wp2_with (go_at_call 16; refine (yRation_any _ yb _ (hyb hS1) hlb).mono ?_; rintro e w2 ⟨rfl, hb2⟩; rw [HB.out]; have hS2 := hS1.below hb2.block)
  refine goS_step 25 rfl fun K Q hK hQ => ?_
  simp only [cd3, code3, Try.f3, Option.getD_some, Cy.sqL, Cy.sqR]
  go_wp2_with fail
  exact piece_c4 C hS2
end Go.Proofs.Ytpolipcicfjkiaa
/- TopRained's Starts. Conditions: as stated. -/
namespace Go.Proofs.Ytpolipcicfjkiaa
open Go.RowKit
open Go.Proofs.Ytpolipcicfjkiaa.Cy (stepD runD)

set_option maxRecDepth 100000 in
set_option maxHeartbeats 8000000 in
theorem piece_c2 {x0 x1 x2 x3 x4 x6 x7 x8 x9 x11 x13 x14 x15 x16 x17 x18 x19 x20 x21 x22 x23 x24 x25 x26 x27 x28 x29 x30 x31 x32 x33 x34 x35 x36 x37 x38 x39 x40 x41 x42 x43 x44 x45 x46 x47 x48 x49 x50 x51 x52 x53 x54 x55 x56 x57 x58 x59 x60 x61 x62 x63 x64 x65 x66 x67 x68 x69 x70 x71 x72 x73 x74 x75 x76 x77 x78 x79 x80 x81 x82 x83 x84 x85 x86 x87 x88 x89 x90 x91 x92 x93 x94 x95 x96 x97 x98 x99 x100 x101 x102 x103 x104 x105 x106 x107 x108 x109 x110 x111 x112 x113 x114 x115 x116 x117 x118 x119 x120 x121 x122 x123 x124 x125 x126 x127 x128 x129 x130 x131 x132 x133 x134 x135 x136 x137 x138 x139 x140 x141 x142 x143 x144 x145 x146 x147 x148 x149 x150 x151 x152 x153 x154 x155 x156 x157 x158 x159 x160 x161 x162 x163 x164 x165 x166 x167 x168 x169 x170 x171 x172 x173 x174 x175 x176 x177 x178 x179 x180 x181 x182 x183 x184 x185 x186 x187 x188 x189 x190 x191 x192 x193 x194 x195 x196 x197 x198 x199 x200 x201 x202 x203 x204 x205 x206 x207 x208 x209 x210 x211 x212 x213 x214 x215 x216 x217 x218 x219 x220 x221 x222 x223 x224 x225 x226 x227 x228 x229 x230 x231 x232 x233 x234 x235 x236 x237 x238 x239 x240 x241 x242 x243 x244 x245 x246 x247 x248 x249 x250 x251 x252 x253 x254 x255 x256 x257 x258 x259 x260 x261 x262 x263 x264 x265 x266 x267 x268 x269 x270 x271 x272 x273 x274 x275 x276 x277 x278 x279 x280 x281 x282 x283 x284 x285 x286 x287 x288 x289 x290 x291 x292 x293 x294 x295 x296 : Value} {B : Nat} {w0 : World} {Post : Value → World → Prop} {ya yb : CY} {sya : Option Addr} {na ca fa : Nat} {dca : Array Value} {syb : Option Addr} {nb cb fb : Nat} {dcb : Array Value} {ba bb bx : Nat} {pt lo hi day : Int} {SX : List (Nat × Array Value × TypeId)} (C : Car B w0 Post ya yb sya na ca fa dca syb nb cb fb dcb ba bb bx pt lo hi day SX) {V : World} (hS : StX SX V) : GoS PA.prog (Cy.AtOk B w0 Post) (Go.Conc.base 3) [] ([] ++ [Cy.trap]) (cd3 20) ⟨#[x0, x1, x2, x3, x4, .pointer (some ⟨bx, 0, none⟩), x6, x7, x8, x9, .pointer (some ⟨ba, 0, none⟩), x11, .pointer (some ⟨bb, 0, none⟩), x13, x14, x15, x16, x17, x18, x19, x20, x21, x22, x23, x24, x25, x26, x27, x28, x29, x30, x31, x32, x33, x34, x35, x36, x37, x38, x39, x40, x41, x42, x43, x44, x45, x46, x47, x48, x49, x50, x51, x52, x53, x54, x55, x56, x57, x58, x59, x60, x61, x62, x63, x64, x65, x66, x67, x68, x69, x70, x71, x72, x73, x74, x75, x76, x77, x78, x79, x80, x81, x82, x83, x84, x85, x86, x87, x88, x89, x90, x91, x92, x93, x94, x95, x96, x97, x98, x99, x100, x101, x102, x103, x104, x105, x106, x107, x108, x109, x110, x111, x112, x113, x114, x115, x116, x117, x118, x119, x120, x121, x122, x123, x124, x125, x126, x127, x128, x129, x130, x131, x132, x133, x134, x135, x136, x137, x138, x139, x140, x141, x142, x143, x144, x145, x146, x147, x148, x149, x150, x151, x152, x153, x154, x155, x156, x157, x158, x159, x160, x161, x162, x163, x164, x165, x166, x167, x168, x169, x170, x171, x172, x173, x174, x175, x176, x177, x178, x179, x180, x181, x182, x183, x184, x185, x186, x187, x188, x189, x190, x191, x192, x193, x194, x195, x196, x197, x198, x199, x200, x201, x202, x203, x204, x205, x206, x207, x208, x209, x210, x211, x212, x213, x214, x215, x216, x217, x218, x219, x220, x221, x222, x223, x224, x225, x226, x227, x228, x229, x230, x231, x232, x233, x234, x235, x236, x237, x238, x239, x240, x241, x242, x243, x244, x245, x246, x247, x248, x249, x250, x251, x252, x253, x254, x255, x256, x257, x258, x259, x260, x261, x262, x263, x264, x265, x266, x267, x268, x269, x270, x271, x272, x273, x274, x275, x276, x277, x278, x279, x280, x281, x282, x283, x284, x285, x286, x287, x288, x289, x290, x291, x292, x293, x294, x295, x296], []⟩ V := by
  have c0 := Cy.cell_blk (i := 0) (hS _ C.ba) rfl
  have c1 := Cy.cell_blk (i := 1) (hS _ C.ba) rfl
  have c2 := Cy.cell_blk (i := 2) (hS _ C.ba) rfl
  simp only [List.getElem_toArray, List.getElem_cons_zero, List.getElem_cons_succ] at c0 c1 c2
  have hya : YAt V (.agg #[I ya.size, I ya.start, .slice sya na ca]) ya := C.A.at_ V fun h => hS _ (C.fa h)
  have hyb : ∀ {V' : World}, StX SX V' → YAt V' (.agg #[I yb.size, I yb.start, .slice syb nb cb]) yb := fun {V'} hS' => C.Bb.at_ V' fun h => hS' _ (C.fb h)
  have hla : ya.days.length ≤ 366 := by rw [C.A.len]; exact C.A.low.few
  have hlb : yb.days.length ≤ 366 := by rw [C.Bb.len]; exact C.Bb.low.few
  obtain ⟨q1, q2, q3, q4, q5, q6⟩ := yValid_spec C.va
  obtain ⟨s1, e1, s2, e2, hA, hB, hc⟩ : ∃ s1 e1 s2 e2 : Int, startR ya = .tuple #[I s1, I e1] ∧ startR yb = .tuple #[I s2, I e2] ∧ (e1 = 0 → e2 = 0 ∧ s2 ≤ s1) := by
    unfold startR
    rw [if_pos C.va, if_pos C.vb]
    cases h1 : startY ya with
    | none =>
      cases h2 : startY yb with
      | none => exact ⟨_, _, _, _, rfl, rfl, fun h => by cases h⟩
      | some s => exact ⟨_, _, _, _, rfl, rfl, fun h => by cases h⟩
    | some s =>
      obtain ⟨s', h2, h3⟩ := start_nar C.nar (by omega) (fun p hp => q6 p hp) h1
      rw [h2]
      exact ⟨_, _, _, _, rfl, rfl, fun _ => ⟨rfl, h3⟩⟩
  have HA := Lib.hid hA
  have HB := Lib.hid hB
  clear q1 q2 q3 q4 q5 q6 hA hB
  by_cases he : e1 = 0
  rotate_left
  clear hc
  rotate_left
  obtain ⟨rfl, hle⟩ := hc he
  subst he
  rotate_left
  · refine goS_step 20 rfl fun K Q hK hQ => ?_
    simp only [cd3, code3, Try.f3, Option.getD_some, Cy.sqL, Cy.sqR]
    go_wp2_with (go_at_call 15; refine (yStart_any _ ya _ hya hla).mono ?_; rintro e w1 ⟨rfl, hb1⟩; rw [HA.out]; have hS1 := hS.below hb1.block)
    have f0 := Cy.cell_blk (i := 0) (hS1 _ C.bb) rfl
    have f1 := Cy.cell_blk (i := 1) (hS1 _ C.bb) rfl
    have f2 := Cy.cell_blk (i := 2) (hS1 _ C.bb) rfl
    simp only [List.getElem_toArray, List.getElem_cons_zero, List.getElem_cons_succ] at f0 f1 f2
    refine goS_step 21 rfl fun K Q hK hQ => ?_
    simp only [cd3, code3, Try.f3, Option.getD_some, Cy.sqL, Cy.sqR]
    go_wp2_with (go_at_call 15; refine (yStart_any _ yb _ (hyb hS1) hlb).mono ?_; rintro e w2 ⟨rfl, hb2⟩; rw [HB.out]; have hS2 := hS1.below hb2.block)
    refine goS_step 22 rfl fun K Q hK hQ => ?_
    simp only [cd3, code3, Try.f3, Option.getD_some, Cy.sqL, Cy.sqR]
    go_wp2_with fail
    exact piece_c3 C hS2
  · refine goS_step 20 rfl fun K Q hK hQ => ?_
    simp only [cd3, code3, Try.f3, Option.getD_some, Cy.sqL, Cy.sqR]
    go_wp2_with (go_at_call 15; refine (yStart_any _ ya _ hya hla).mono ?_; rintro e w1 ⟨rfl, hb1⟩; rw [HA.out]; have hS1 := hS.below hb1.block)
    have f0 := Cy.cell_blk (i := 0) (hS1 _ C.bb) rfl
    have f1 := Cy.cell_blk (i := 1) (hS1 _ C.bb) rfl
    have f2 := Cy.cell_blk (i := 2) (hS1 _ C.bb) rfl
    simp only [List.getElem_toArray, List.getElem_cons_zero, List.getElem_cons_succ] at f0 f1 f2
    refine goS_step 21 rfl fun K Q hK hQ => ?_
    simp only [cd3, code3, Try.f3, Option.getD_some, Cy.sqL, Cy.sqR]
    go_wp2_with (go_at_call 15; refine (yStart_any _ yb _ (hyb hS1) hlb).mono ?_; rintro e w2 ⟨rfl, hb2⟩; rw [HB.out]; have hS2 := hS1.below hb2.block)
    refine goS_step 22 rfl fun K Q hK hQ => ?_
    simp only [cd3, code3, Try.f3, Option.getD_some, Cy.sqL, Cy.sqR]
    go_wp2_with fail
    exact piece_c3 C hS2
end Go.Proofs.Ytpolipcicfjkiaa
/- TopRained's Sizes. Conditions: as stated. -/
namespace Go.Proofs.Ytpolipcicfjkiaa
open Go.RowKit
open Go.Proofs.Ytpolipcicfjkiaa.Cy (stepD runD)

set_option maxRecDepth 100000 in
set_option maxHeartbeats 8000000 in
theorem piece_c1 {x0 x1 x2 x3 x4 x6 x7 x8 x9 x11 x13 x14 x15 x16 x17 x18 x19 x20 x21 x22 x23 x24 x25 x26 x27 x28 x29 x30 x31 x32 x33 x34 x35 x36 x37 x38 x39 x40 x41 x42 x43 x44 x45 x46 x47 x48 x49 x50 x51 x52 x53 x54 x55 x56 x57 x58 x59 x60 x61 x62 x63 x64 x65 x66 x67 x68 x69 x70 x71 x72 x73 x74 x75 x76 x77 x78 x79 x80 x81 x82 x83 x84 x85 x86 x87 x88 x89 x90 x91 x92 x93 x94 x95 x96 x97 x98 x99 x100 x101 x102 x103 x104 x105 x106 x107 x108 x109 x110 x111 x112 x113 x114 x115 x116 x117 x118 x119 x120 x121 x122 x123 x124 x125 x126 x127 x128 x129 x130 x131 x132 x133 x134 x135 x136 x137 x138 x139 x140 x141 x142 x143 x144 x145 x146 x147 x148 x149 x150 x151 x152 x153 x154 x155 x156 x157 x158 x159 x160 x161 x162 x163 x164 x165 x166 x167 x168 x169 x170 x171 x172 x173 x174 x175 x176 x177 x178 x179 x180 x181 x182 x183 x184 x185 x186 x187 x188 x189 x190 x191 x192 x193 x194 x195 x196 x197 x198 x199 x200 x201 x202 x203 x204 x205 x206 x207 x208 x209 x210 x211 x212 x213 x214 x215 x216 x217 x218 x219 x220 x221 x222 x223 x224 x225 x226 x227 x228 x229 x230 x231 x232 x233 x234 x235 x236 x237 x238 x239 x240 x241 x242 x243 x244 x245 x246 x247 x248 x249 x250 x251 x252 x253 x254 x255 x256 x257 x258 x259 x260 x261 x262 x263 x264 x265 x266 x267 x268 x269 x270 x271 x272 x273 x274 x275 x276 x277 x278 x279 x280 x281 x282 x283 x284 x285 x286 x287 x288 x289 x290 x291 x292 x293 x294 x295 x296 : Value} {B : Nat} {w0 : World} {Post : Value → World → Prop} {ya yb : CY} {sya : Option Addr} {na ca fa : Nat} {dca : Array Value} {syb : Option Addr} {nb cb fb : Nat} {dcb : Array Value} {ba bb bx : Nat} {pt lo hi day : Int} {SX : List (Nat × Array Value × TypeId)} (C : Car B w0 Post ya yb sya na ca fa dca syb nb cb fb dcb ba bb bx pt lo hi day SX) {V : World} (hS : StX SX V) : GoS PA.prog (Cy.AtOk B w0 Post) (Go.Conc.base 3) [] ([] ++ [Cy.trap]) (cd3 17) ⟨#[x0, x1, x2, x3, x4, .pointer (some ⟨bx, 0, none⟩), x6, x7, x8, x9, .pointer (some ⟨ba, 0, none⟩), x11, .pointer (some ⟨bb, 0, none⟩), x13, x14, x15, x16, x17, x18, x19, x20, x21, x22, x23, x24, x25, x26, x27, x28, x29, x30, x31, x32, x33, x34, x35, x36, x37, x38, x39, x40, x41, x42, x43, x44, x45, x46, x47, x48, x49, x50, x51, x52, x53, x54, x55, x56, x57, x58, x59, x60, x61, x62, x63, x64, x65, x66, x67, x68, x69, x70, x71, x72, x73, x74, x75, x76, x77, x78, x79, x80, x81, x82, x83, x84, x85, x86, x87, x88, x89, x90, x91, x92, x93, x94, x95, x96, x97, x98, x99, x100, x101, x102, x103, x104, x105, x106, x107, x108, x109, x110, x111, x112, x113, x114, x115, x116, x117, x118, x119, x120, x121, x122, x123, x124, x125, x126, x127, x128, x129, x130, x131, x132, x133, x134, x135, x136, x137, x138, x139, x140, x141, x142, x143, x144, x145, x146, x147, x148, x149, x150, x151, x152, x153, x154, x155, x156, x157, x158, x159, x160, x161, x162, x163, x164, x165, x166, x167, x168, x169, x170, x171, x172, x173, x174, x175, x176, x177, x178, x179, x180, x181, x182, x183, x184, x185, x186, x187, x188, x189, x190, x191, x192, x193, x194, x195, x196, x197, x198, x199, x200, x201, x202, x203, x204, x205, x206, x207, x208, x209, x210, x211, x212, x213, x214, x215, x216, x217, x218, x219, x220, x221, x222, x223, x224, x225, x226, x227, x228, x229, x230, x231, x232, x233, x234, x235, x236, x237, x238, x239, x240, x241, x242, x243, x244, x245, x246, x247, x248, x249, x250, x251, x252, x253, x254, x255, x256, x257, x258, x259, x260, x261, x262, x263, x264, x265, x266, x267, x268, x269, x270, x271, x272, x273, x274, x275, x276, x277, x278, x279, x280, x281, x282, x283, x284, x285, x286, x287, x288, x289, x290, x291, x292, x293, x294, x295, x296], []⟩ V := by
  have c0 := Cy.cell_blk (i := 0) (hS _ C.ba) rfl
  have c1 := Cy.cell_blk (i := 1) (hS _ C.ba) rfl
  have c2 := Cy.cell_blk (i := 2) (hS _ C.ba) rfl
  simp only [List.getElem_toArray, List.getElem_cons_zero, List.getElem_cons_succ] at c0 c1 c2
  have hya : YAt V (.agg #[I ya.size, I ya.start, .slice sya na ca]) ya := C.A.at_ V fun h => hS _ (C.fa h)
  have hyb : ∀ {V' : World}, StX SX V' → YAt V' (.agg #[I yb.size, I yb.start, .slice syb nb cb]) yb := fun {V'} hS' => C.Bb.at_ V' fun h => hS' _ (C.fb h)
  have hla : ya.days.length ≤ 366 := by rw [C.A.len]; exact C.A.low.few
  have hlb : yb.days.length ≤ 366 := by rw [C.Bb.len]; exact C.Bb.low.few
  obtain ⟨q1, q2, q3, q4, q5, q6⟩ := yValid_spec C.va
  obtain ⟨s1, e1, s2, e2, hA, hB, hc⟩ : ∃ s1 e1 s2 e2 : Int, sizeR ya = .tuple #[I s1, I e1] ∧ sizeR yb = .tuple #[I s2, I e2] ∧ (e1 = 0 → e2 = 0 ∧ s2 ≤ s1) := by
    unfold sizeR
    rw [if_pos C.va, if_pos C.vb]
    cases h1 : sizeY ya with
    | none =>
      cases h2 : sizeY yb with
      | none => exact ⟨_, _, _, _, rfl, rfl, fun h => by cases h⟩
      | some s => exact ⟨_, _, _, _, rfl, rfl, fun h => by cases h⟩
    | some s =>
      obtain ⟨s', h2, h3⟩ := size_nar C.nar (by omega) (fun p hp => q6 p hp) h1
      rw [h2]
      exact ⟨_, _, _, _, rfl, rfl, fun _ => ⟨rfl, h3⟩⟩
  have HA := Lib.hid hA
  have HB := Lib.hid hB
  clear q1 q2 q3 q4 q5 q6 hA hB
  by_cases he : e1 = 0
  rotate_left
  clear hc
  rotate_left
  obtain ⟨rfl, hle⟩ := hc he
  subst he
  rotate_left
  · refine goS_step 17 rfl fun K Q hK hQ => ?_
    simp only [cd3, code3, Try.f3, Option.getD_some, Cy.sqL, Cy.sqR]
    go_wp2_with (go_at_call 14; refine (ySize_any _ ya _ hya hla).mono ?_; rintro e w1 ⟨rfl, hb1⟩; rw [HA.out]; have hS1 := hS.below hb1.block)
    have f0 := Cy.cell_blk (i := 0) (hS1 _ C.bb) rfl
    have f1 := Cy.cell_blk (i := 1) (hS1 _ C.bb) rfl
    have f2 := Cy.cell_blk (i := 2) (hS1 _ C.bb) rfl
    simp only [List.getElem_toArray, List.getElem_cons_zero, List.getElem_cons_succ] at f0 f1 f2
    refine goS_step 18 rfl fun K Q hK hQ => ?_
    simp only [cd3, code3, Try.f3, Option.getD_some, Cy.sqL, Cy.sqR]
    go_wp2_with (go_at_call 14; refine (ySize_any _ yb _ (hyb hS1) hlb).mono ?_; rintro e w2 ⟨rfl, hb2⟩; rw [HB.out]; have hS2 := hS1.below hb2.block)
    refine goS_step 19 rfl fun K Q hK hQ => ?_
    simp only [cd3, code3, Try.f3, Option.getD_some, Cy.sqL, Cy.sqR]
    go_wp2_with fail
    exact piece_c2 C hS2
  · refine goS_step 17 rfl fun K Q hK hQ => ?_
    simp only [cd3, code3, Try.f3, Option.getD_some, Cy.sqL, Cy.sqR]
    go_wp2_with (go_at_call 14; refine (ySize_any _ ya _ hya hla).mono ?_; rintro e w1 ⟨rfl, hb1⟩; rw [HA.out]; have hS1 := hS.below hb1.block)
    have f0 := Cy.cell_blk (i := 0) (hS1 _ C.bb) rfl
    have f1 := Cy.cell_blk (i := 1) (hS1 _ C.bb) rfl
    have f2 := Cy.cell_blk (i := 2) (hS1 _ C.bb) rfl
    simp only [List.getElem_toArray, List.getElem_cons_zero, List.getElem_cons_succ] at f0 f1 f2
    refine goS_step 18 rfl fun K Q hK hQ => ?_
    simp only [cd3, code3, Try.f3, Option.getD_some, Cy.sqL, Cy.sqR]
    go_wp2_with (go_at_call 14; refine (ySize_any _ yb _ (hyb hS1) hlb).mono ?_; rintro e w2 ⟨rfl, hb2⟩; rw [HB.out]; have hS2 := hS1.below hb2.block)
    refine goS_step 19 rfl fun K Q hK hQ => ?_
    simp only [cd3, code3, Try.f3, Option.getD_some, Cy.sqL, Cy.sqR]
    go_wp2_with fail
    exact piece_c2 C hS2
end Go.Proofs.Ytpolipcicfjkiaa
/- TopRained behind Dry's second answer. Conditions: as stated. -/
namespace Go.Proofs.Ytpolipcicfjkiaa
open Go.RowKit
open Go.Proofs.Ytpolipcicfjkiaa.Cy (stepD runD)

set_option maxRecDepth 100000 in
set_option maxHeartbeats 8000000 in
theorem piece_c0 {x0 x1 x2 x3 x4 x6 x7 x8 x9 x11 x13 x16 x17 x18 x19 x20 x21 x22 x23 x24 x25 x26 x27 x28 x29 x30 x31 x32 x33 x34 x35 x36 x37 x38 x39 x40 x41 x42 x43 x44 x45 x46 x47 x48 x49 x50 x51 x52 x53 x54 x55 x56 x57 x58 x59 x60 x61 x62 x63 x64 x65 x66 x67 x68 x69 x70 x71 x72 x73 x74 x75 x76 x77 x78 x79 x80 x81 x82 x83 x84 x85 x86 x87 x88 x89 x90 x91 x92 x93 x94 x95 x96 x97 x98 x99 x100 x101 x102 x103 x104 x105 x106 x107 x108 x109 x110 x111 x112 x113 x114 x115 x116 x117 x118 x119 x120 x121 x122 x123 x124 x125 x126 x127 x128 x129 x130 x131 x132 x133 x134 x135 x136 x137 x138 x139 x140 x141 x142 x143 x144 x146 x147 x148 x149 x150 x151 x152 x153 x154 x155 x156 x157 x158 x159 x160 x161 x162 x163 x164 x165 x166 x167 x168 x169 x170 x171 x172 x173 x174 x175 x176 x177 x178 x179 x180 x181 x182 x183 x184 x185 x186 x187 x188 x189 x190 x191 x192 x193 x194 x195 x196 x197 x198 x199 x200 x201 x202 x203 x204 x205 x206 x207 x208 x209 x210 x211 x212 x213 x214 x215 x216 x217 x218 x219 x220 x221 x222 x223 x224 x225 x226 x227 x228 x229 x230 x231 x232 x233 x234 x235 x236 x237 x238 x239 x240 x241 x242 x243 x244 x245 x246 x247 x248 x249 x250 x251 x252 x253 x254 x255 x256 x257 x258 x259 x260 x261 x262 x263 x264 x265 x266 x267 x268 x269 x270 x271 x272 x273 x274 x275 x276 x277 x278 x279 x280 x281 x282 x283 x284 x285 x286 x287 x288 x289 x290 x291 x292 x293 x294 x295 x296 : Value} {B : Nat} {w0 : World} {Post : Value → World → Prop} {ya yb : CY} {sya : Option Addr} {na ca fa : Nat} {dca : Array Value} {syb : Option Addr} {nb cb fb : Nat} {dcb : Array Value} {ba bb bx : Nat} {pt lo hi day : Int} {SX : List (Nat × Array Value × TypeId)} (C : Car B w0 Post ya yb sya na ca fa dca syb nb cb fb dcb ba bb bx pt lo hi day SX) {ka ea kb eb : Int} (hc : (eb = 3 ∧ ea = 3) ∨ (eb = 3 ∧ ea = 0) ∨ (ea = 0 ∧ eb = 0 ∧ ka ≤ kb)) {v : World} (hS : StX SX v) :
    Cy.Ok B w0 Post ((Go.Conc.base 3).at ⟨#[x0, x1, x2, x3, x4, .pointer (some ⟨bx, 0, none⟩), x6, x7, x8, x9, .pointer (some ⟨ba, 0, none⟩), x11, .pointer (some ⟨bb, 0, none⟩), x13, I ka, I ea, x16, x17, x18, x19, x20, x21, x22, x23, x24, x25, x26, x27, x28, x29, x30, x31, x32, x33, x34, x35, x36, x37, x38, x39, x40, x41, x42, x43, x44, x45, x46, x47, x48, x49, x50, x51, x52, x53, x54, x55, x56, x57, x58, x59, x60, x61, x62, x63, x64, x65, x66, x67, x68, x69, x70, x71, x72, x73, x74, x75, x76, x77, x78, x79, x80, x81, x82, x83, x84, x85, x86, x87, x88, x89, x90, x91, x92, x93, x94, x95, x96, x97, x98, x99, x100, x101, x102, x103, x104, x105, x106, x107, x108, x109, x110, x111, x112, x113, x114, x115, x116, x117, x118, x119, x120, x121, x122, x123, x124, x125, x126, x127, x128, x129, x130, x131, x132, x133, x134, x135, x136, x137, x138, x139, x140, x141, x142, x143, x144, .tuple #[I kb, I eb], x146, x147, x148, x149, x150, x151, x152, x153, x154, x155, x156, x157, x158, x159, x160, x161, x162, x163, x164, x165, x166, x167, x168, x169, x170, x171, x172, x173, x174, x175, x176, x177, x178, x179, x180, x181, x182, x183, x184, x185, x186, x187, x188, x189, x190, x191, x192, x193, x194, x195, x196, x197, x198, x199, x200, x201, x202, x203, x204, x205, x206, x207, x208, x209, x210, x211, x212, x213, x214, x215, x216, x217, x218, x219, x220, x221, x222, x223, x224, x225, x226, x227, x228, x229, x230, x231, x232, x233, x234, x235, x236, x237, x238, x239, x240, x241, x242, x243, x244, x245, x246, x247, x248, x249, x250, x251, x252, x253, x254, x255, x256, x257, x258, x259, x260, x261, x262, x263, x264, x265, x266, x267, x268, x269, x270, x271, x272, x273, x274, x275, x276, x277, x278, x279, x280, x281, x282, x283, x284, x285, x286, x287, x288, x289, x290, x291, x292, x293, x294, x295, x296], []⟩ (.inRegion (Cy.opsO (Cy.sqL (cd3 15))) [2, 3, 4, 5, 6] :: [.code (cd3 16)])) [] v := by
  refine Cy.tree_ok (Cy.tame_of (tam3 rfl (by decide +kernel) (by decide +kernel)) fun f hf => by simp at hf) fun V hV => ?_
  have hSV := hS.heap hV
  have hsV : v.heap.size = V.heap.size := by rw [hV]
  show GoL _ _ _ [.code (cd3 16)] _ _ [2, 3, 4, 5, 6] _ V
  refine goL_rest 2 rfl fun K Q hK hQ => ?_
  simp only [cd3, code3, Try.f3, Option.getD_some, Cy.sqL, Cy.sqR, Cy.opsO, List.drop_succ_cons, List.drop_zero]
  go_wp2_with fail
  rcases hc with ⟨rfl, rfl⟩ | ⟨rfl, rfl⟩ | ⟨rfl, rfl, hle⟩
  · refine goS_step 16 rfl fun K Q hK hQ => ?_
    simp only [cd3, code3, Try.f3, Option.getD_some, Cy.sqL, Cy.sqR]
    go_wp2_with fail
    exact piece_c1 C hSV
  · refine goS_step 16 rfl fun K Q hK hQ => ?_
    simp only [cd3, code3, Try.f3, Option.getD_some, Cy.sqL, Cy.sqR]
    go_wp2_with fail
    exact piece_c1 C hSV
  · refine goS_step 16 rfl fun K Q hK hQ => ?_
    simp only [cd3, code3, Try.f3, Option.getD_some, Cy.sqL, Cy.sqR]
    go_wp2_with fail
    exact piece_c1 C hSV
end Go.Proofs.Ytpolipcicfjkiaa
/- TopRained between Dry's answers. Conditions: as stated. -/
namespace Go.Proofs.Ytpolipcicfjkiaa
open Go.RowKit
open Go.Proofs.Ytpolipcicfjkiaa.Cy (stepD runD)

theorem dryV_is (y : CY) : ∃ k e : Int, dryV y = .tuple #[I k, I e] ∧ ((dryY y < 0 ∧ k = 0 ∧ e = 3) ∨ (0 ≤ dryY y ∧ k = dryY y ∧ e = 0)) := by
  unfold dryV
  by_cases h : dryY y < 0
  · rw [if_pos h]; exact ⟨_, _, rfl, .inl ⟨h, rfl, rfl⟩⟩
  · rw [if_neg h]; exact ⟨_, _, rfl, .inr ⟨by omega, rfl, rfl⟩⟩
set_option maxRecDepth 100000 in
set_option maxHeartbeats 8000000 in
theorem piece_b {x0 x1 x2 x3 x4 x6 x7 x8 x9 x11 x13 x14 x15 x16 x17 x18 x19 x20 x21 x22 x23 x24 x25 x26 x27 x28 x29 x30 x31 x32 x33 x34 x35 x36 x37 x38 x39 x40 x41 x42 x43 x44 x45 x46 x47 x48 x49 x50 x51 x52 x53 x54 x55 x56 x57 x58 x59 x60 x61 x62 x63 x64 x65 x66 x67 x68 x69 x70 x71 x72 x73 x74 x75 x76 x77 x78 x79 x80 x81 x82 x83 x84 x85 x86 x87 x88 x89 x90 x91 x92 x93 x94 x95 x96 x97 x98 x99 x100 x101 x102 x103 x104 x105 x106 x107 x108 x109 x110 x111 x112 x113 x114 x115 x116 x117 x118 x119 x120 x121 x122 x123 x124 x125 x126 x127 x128 x129 x130 x131 x132 x133 x134 x135 x136 x137 x138 x139 x141 x142 x143 x144 x145 x146 x147 x148 x149 x150 x151 x152 x153 x154 x155 x156 x157 x158 x159 x160 x161 x162 x163 x164 x165 x166 x167 x168 x169 x170 x171 x172 x173 x174 x175 x176 x177 x178 x179 x180 x181 x182 x183 x184 x185 x186 x187 x188 x189 x190 x191 x192 x193 x194 x195 x196 x197 x198 x199 x200 x201 x202 x203 x204 x205 x206 x207 x208 x209 x210 x211 x212 x213 x214 x215 x216 x217 x218 x219 x220 x221 x222 x223 x224 x225 x226 x227 x228 x229 x230 x231 x232 x233 x234 x235 x236 x237 x238 x239 x240 x241 x242 x243 x244 x245 x246 x247 x248 x249 x250 x251 x252 x253 x254 x255 x256 x257 x258 x259 x260 x261 x262 x263 x264 x265 x266 x267 x268 x269 x270 x271 x272 x273 x274 x275 x276 x277 x278 x279 x280 x281 x282 x283 x284 x285 x286 x287 x288 x289 x290 x291 x292 x293 x294 x295 x296 : Value} {B : Nat} {w0 : World} {Post : Value → World → Prop} {ya yb : CY} {sya : Option Addr} {na ca fa : Nat} {dca : Array Value} {syb : Option Addr} {nb cb fb : Nat} {dcb : Array Value} {ba bb bx : Nat} {pt lo hi day : Int} {SX : List (Nat × Array Value × TypeId)} (C : Car B w0 Post ya yb sya na ca fa dca syb nb cb fb dcb ba bb bx pt lo hi day SX) {ka ea : Int} (hk : (dryY ya < 0 ∧ ka = 0 ∧ ea = 3) ∨ (0 ≤ dryY ya ∧ ka = dryY ya ∧ ea = 0)) {v : World} (hS : StX SX v) :
    Cy.Ok B w0 Post ((Go.Conc.base 3).at ⟨#[x0, x1, x2, x3, x4, .pointer (some ⟨bx, 0, none⟩), x6, x7, x8, x9, .pointer (some ⟨ba, 0, none⟩), x11, .pointer (some ⟨bb, 0, none⟩), x13, x14, x15, x16, x17, x18, x19, x20, x21, x22, x23, x24, x25, x26, x27, x28, x29, x30, x31, x32, x33, x34, x35, x36, x37, x38, x39, x40, x41, x42, x43, x44, x45, x46, x47, x48, x49, x50, x51, x52, x53, x54, x55, x56, x57, x58, x59, x60, x61, x62, x63, x64, x65, x66, x67, x68, x69, x70, x71, x72, x73, x74, x75, x76, x77, x78, x79, x80, x81, x82, x83, x84, x85, x86, x87, x88, x89, x90, x91, x92, x93, x94, x95, x96, x97, x98, x99, x100, x101, x102, x103, x104, x105, x106, x107, x108, x109, x110, x111, x112, x113, x114, x115, x116, x117, x118, x119, x120, x121, x122, x123, x124, x125, x126, x127, x128, x129, x130, x131, x132, x133, x134, x135, x136, x137, x138, x139, .tuple #[I ka, I ea], x141, x142, x143, x144, x145, x146, x147, x148, x149, x150, x151, x152, x153, x154, x155, x156, x157, x158, x159, x160, x161, x162, x163, x164, x165, x166, x167, x168, x169, x170, x171, x172, x173, x174, x175, x176, x177, x178, x179, x180, x181, x182, x183, x184, x185, x186, x187, x188, x189, x190, x191, x192, x193, x194, x195, x196, x197, x198, x199, x200, x201, x202, x203, x204, x205, x206, x207, x208, x209, x210, x211, x212, x213, x214, x215, x216, x217, x218, x219, x220, x221, x222, x223, x224, x225, x226, x227, x228, x229, x230, x231, x232, x233, x234, x235, x236, x237, x238, x239, x240, x241, x242, x243, x244, x245, x246, x247, x248, x249, x250, x251, x252, x253, x254, x255, x256, x257, x258, x259, x260, x261, x262, x263, x264, x265, x266, x267, x268, x269, x270, x271, x272, x273, x274, x275, x276, x277, x278, x279, x280, x281, x282, x283, x284, x285, x286, x287, x288, x289, x290, x291, x292, x293, x294, x295, x296], []⟩ (.inRegion (Cy.opsO (Cy.sqL (cd3 14))) [2, 3, 4, 5, 6] :: [.code (cd3 15)])) [] v := by
  refine Cy.tree_ok (Cy.tame_of (tam3 rfl (by decide +kernel) (by decide +kernel)) fun f hf => by simp at hf) fun V hV => ?_
  have hSV := hS.heap hV
  have hsV : v.heap.size = V.heap.size := by rw [hV]
  show GoL _ _ _ [.code (cd3 15)] _ _ [2, 3, 4, 5, 6] _ V
  refine goL_rest 2 rfl fun K Q hK hQ => ?_
  simp only [cd3, code3, Try.f3, Option.getD_some, Cy.sqL, Cy.sqR, Cy.opsO, List.drop_succ_cons, List.drop_zero]
  go_wp2_with fail
  have c0 := Cy.cell_blk (i := 0) (hSV _ C.bb) rfl
  have c1 := Cy.cell_blk (i := 1) (hSV _ C.bb) rfl
  have c2 := Cy.cell_blk (i := 2) (hSV _ C.bb) rfl
  simp only [List.getElem_toArray, List.getElem_cons_zero, List.getElem_cons_succ] at c0 c1 c2
  show GoS _ _ _ _ _ (.seq (.region 21 (Cy.opsO (Cy.sqL (cd3 15))) false) (cd3 16)) _ _
  refine goS_into ?_
  refine goS_region ?_
  generalize hk3 : cd3 16 = kk
  simp only [cd3, code3, Try.f3, Option.getD_some, Cy.sqL, Cy.sqR, Cy.opsO]
  show GoL _ _ _ _ _ _ [0, 1, 2, 3, 4, 5, 6] _ _
  refine goL_value rfl rfl (v := .agg #[I yb.size, I yb.start, .slice syb nb cb]) (w' := _) (by simp [execOp, go_sem, Act.eval, c0, c1, c2]; rfl) ?_
  refine goL_here ⟨_, [], _, rfl, .inl rfl, ?_⟩
  subst hk3
  simp only [Act.put, List.setIfInBounds_toArray]
  refine dry_ok rfl rfl (by decide) rfl C.Bb rfl C.vb C.X C.fb hSV (tam3 rfl (by decide +kernel) (by decide +kernel)) (fun f hf => by simp at hf) fun v' hsz hS' => ?_
  obtain ⟨kb, eb, hb, hkb⟩ := dryV_is yb
  rw [hb]
  simp only [Act.put]
  refine piece_c0 C ?_ hS'
  have := dry_nar C.nar C.va
  omega
end Go.Proofs.Ytpolipcicfjkiaa
