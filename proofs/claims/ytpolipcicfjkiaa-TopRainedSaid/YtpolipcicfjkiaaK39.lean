/- TopRained from the years' Far and Check to Dry. Conditions: as stated. -/
import Derived.Test.YtpolipcicfjkiaaK38
import Derived.Test.YtpolipcicfjkiaaK35
namespace Go.Proofs.Ytpolipcicfjkiaa
open Go.RowKit
open Go.Proofs.Ytpolipcicfjkiaa.Cy (stepD runD)

theorem hB_of {B : Nat} {w0 vv V : World} {c0 : Nat → Cy.Cls} (hvv : vv.heap = (Cy.view c0 0 w0).heap) (hlow : Cy.BelowH B vv V) : ∀ b, b < B → V.heap[b]? = (Cy.view c0 0 w0).heap[b]? := fun b hb => by rw [hlow.block b hb, hvv]
theorem low_of {B : Nat} {vv V V' : World} (hB : vv.heap.size = B) (h : Cy.BelowH B vv V) (hb : Below V.heap.size V V') : Cy.BelowH B vv V' := h.trans ((Cy.BelowH.of hb).mono (by have := h.size; omega))
theorem low_ofH {B : Nat} {vv V V' : World} (hB : vv.heap.size = B) (h : Cy.BelowH B vv V) (hb : Cy.BelowH V.heap.size V V') : Cy.BelowH B vv V' := h.trans (hb.mono (by have := h.size; omega))

set_option maxRecDepth 100000 in
set_option maxHeartbeats 8000000 in
theorem piece_a4 {x0 x1 x2 x3 x4 x6 x7 x8 x9 x11 x13 x14 x15 x16 x17 x18 x19 x20 x21 x22 x23 x24 x25 x26 x27 x28 x29 x30 x31 x32 x33 x34 x35 x36 x37 x38 x39 x40 x41 x42 x43 x44 x45 x46 x47 x48 x49 x50 x51 x52 x53 x54 x55 x56 x57 x58 x59 x60 x61 x62 x63 x64 x65 x66 x67 x68 x69 x70 x71 x72 x73 x74 x75 x76 x77 x78 x79 x80 x81 x82 x83 x84 x85 x86 x87 x88 x89 x90 x91 x92 x93 x94 x95 x96 x97 x98 x99 x100 x101 x102 x103 x104 x105 x106 x107 x108 x109 x110 x111 x112 x113 x114 x115 x116 x117 x118 x119 x120 x121 x122 x123 x124 x125 x126 x127 x128 x129 x130 x131 x132 x133 x134 x135 x136 x137 x138 x139 x140 x141 x142 x143 x144 x145 x146 x147 x148 x149 x150 x151 x152 x153 x154 x155 x156 x157 x158 x159 x160 x161 x162 x163 x164 x165 x166 x167 x168 x169 x170 x171 x172 x173 x174 x175 x176 x177 x178 x179 x180 x181 x182 x183 x184 x185 x186 x187 x188 x189 x190 x191 x192 x193 x194 x195 x196 x197 x198 x199 x200 x201 x202 x203 x204 x205 x206 x207 x208 x209 x210 x211 x212 x213 x214 x215 x216 x217 x218 x219 x220 x221 x222 x223 x224 x225 x226 x227 x228 x229 x230 x231 x232 x233 x234 x235 x236 x237 x238 x239 x240 x241 x242 x243 x244 x245 x246 x247 x248 x249 x250 x251 x252 x253 x254 x255 x256 x257 x258 x259 x260 x261 x262 x263 x264 x265 x266 x267 x268 x269 x270 x271 x272 x273 x274 x275 x276 x277 x278 x279 x280 x281 x282 x283 x284 x285 x286 x287 x288 x289 x290 x291 x292 x293 x294 x295 x296 : Value} {B : Nat} {w0 : World} {Post : Value → World → Prop} {c0 : Nat → Cy.Cls} {vv V : World} {ya yb : CY} {sya syb : Option Addr} {na ca fa nb cb fb ba bb bx : Nat} {dca dcb : Array Value} {pt lo hi day : Int} (hvv : vv.heap = (Cy.view c0 0 w0).heap) (hB : vv.heap.size = B) (hlow : Cy.BelowH B vv V)
    (hpost : ∀ w, Cy.Old B w0 w → Post (.bool true) w) (YA : Yr ya (.agg #[I ya.size, I ya.start, .slice sya na ca]) sya na ca fa dca) (YB : Yr yb (.agg #[I yb.size, I yb.start, .slice syb nb cb]) syb nb cb fb dcb) (hnar : Nar ya yb)
    (hS : StX ((ba, #[I ya.size, I ya.start, .slice sya na ca], 24) :: (bb, #[I yb.size, I yb.start, .slice syb nb cb], 24) :: (bx, #[I pt, I lo, I hi, I day], 32) :: ((if 0 < na then [(fa, dca, 59)] else []) ++ (if 0 < nb then [(fb, dcb, 59)] else []))) V) (hge : ∀ p ∈ ((ba, #[I ya.size, I ya.start, .slice sya na ca], 24) :: (bb, #[I yb.size, I yb.start, .slice syb nb cb], 24) :: (bx, #[I pt, I lo, I hi, I day], 32) :: ((if 0 < na then [(fa, dca, 59)] else []) ++ (if 0 < nb then [(fb, dcb, 59)] else []))), B ≤ p.1) : GoS PA.prog (Cy.AtOk0 B w0 Post c0) (Go.Conc.base 3) [] ([] ++ [Cy.trap]) (cd3 12) ⟨#[x0, x1, x2, x3, x4, .pointer (some ⟨bx, 0, none⟩), x6, x7, x8, x9, .pointer (some ⟨ba, 0, none⟩), x11, .pointer (some ⟨bb, 0, none⟩), x13, x14, x15, x16, x17, x18, x19, x20, x21, x22, x23, x24, x25, x26, x27, x28, x29, x30, x31, x32, x33, x34, x35, x36, x37, x38, x39, x40, x41, x42, x43, x44, x45, x46, x47, x48, x49, x50, x51, x52, x53, x54, x55, x56, x57, x58, x59, x60, x61, x62, x63, x64, x65, x66, x67, x68, x69, x70, x71, x72, x73, x74, x75, x76, x77, x78, x79, x80, x81, x82, x83, x84, x85, x86, x87, x88, x89, x90, x91, x92, x93, x94, x95, x96, x97, x98, x99, x100, x101, x102, x103, x104, x105, x106, x107, x108, x109, x110, x111, x112, x113, x114, x115, x116, x117, x118, x119, x120, x121, x122, x123, x124, x125, x126, x127, x128, x129, x130, x131, x132, x133, x134, x135, x136, x137, x138, x139, x140, x141, x142, x143, x144, x145, x146, x147, x148, x149, x150, x151, x152, x153, x154, x155, x156, x157, x158, x159, x160, x161, x162, x163, x164, x165, x166, x167, x168, x169, x170, x171, x172, x173, x174, x175, x176, x177, x178, x179, x180, x181, x182, x183, x184, x185, x186, x187, x188, x189, x190, x191, x192, x193, x194, x195, x196, x197, x198, x199, x200, x201, x202, x203, x204, x205, x206, x207, x208, x209, x210, x211, x212, x213, x214, x215, x216, x217, x218, x219, x220, x221, x222, x223, x224, x225, x226, x227, x228, x229, x230, x231, x232, x233, x234, x235, x236, x237, x238, x239, x240, x241, x242, x243, x244, x245, x246, x247, x248, x249, x250, x251, x252, x253, x254, x255, x256, x257, x258, x259, x260, x261, x262, x263, x264, x265, x266, x267, x268, x269, x270, x271, x272, x273, x274, x275, x276, x277, x278, x279, x280, x281, x282, x283, x284, x285, x286, x287, x288, x289, x290, x291, x292, x293, x294, x295, x296], []⟩ V := by
  obtain ⟨SX, hSX⟩ : ∃ SX, SX = ((ba, #[I ya.size, I ya.start, .slice sya na ca], 24) :: (bb, #[I yb.size, I yb.start, .slice syb nb cb], 24) :: (bx, #[I pt, I lo, I hi, I day], 32) :: ((if 0 < na then [(fa, dca, 59)] else []) ++ (if 0 < nb then [(fb, dcb, 59)] else []))) := ⟨_, rfl⟩
  have mba : (ba, #[I ya.size, I ya.start, .slice sya na ca], 24) ∈ SX := by rw [hSX]; simp
  have mbb : (bb, #[I yb.size, I yb.start, .slice syb nb cb], 24) ∈ SX := by rw [hSX]; simp
  have mbx : (bx, #[I pt, I lo, I hi, I day], 32) ∈ SX := by rw [hSX]; simp
  have mfa : 0 < na → (fa, dca, 59) ∈ SX := fun h => by rw [hSX]; simp [h]
  have mfb : 0 < nb → (fb, dcb, 59) ∈ SX := fun h => by rw [hSX]; simp [h]
  have hX : Cy.Rows59 SX := by
    rw [hSX]
    intro p hp
    simp only [List.mem_cons, List.mem_append] at hp
    rcases hp with rfl | rfl | rfl | hp | hp
    · exact ⟨by simp, (show (24 : Nat) ≠ 60 by decide), (show (24 : Nat) ≠ 90 by decide)⟩
    · exact ⟨by simp, (show (24 : Nat) ≠ 60 by decide), (show (24 : Nat) ≠ 90 by decide)⟩
    · exact ⟨by simp, (show (32 : Nat) ≠ 60 by decide), (show (32 : Nat) ≠ 90 by decide)⟩
    · split at hp
      · rename_i h0
        obtain rfl := List.mem_singleton.1 hp
        exact ⟨YA.low.ne h0, (show (59 : Nat) ≠ 60 by decide), (show (59 : Nat) ≠ 90 by decide)⟩
      · simp at hp
    · split at hp
      · rename_i h0
        obtain rfl := List.mem_singleton.1 hp
        exact ⟨YB.low.ne h0, (show (59 : Nat) ≠ 60 by decide), (show (59 : Nat) ≠ 90 by decide)⟩
      · simp at hp
  rw [← hSX] at hS hge
  clear hSX
  have hya : ∀ {V' : World}, StX SX V' → YAt V' (.agg #[I ya.size, I ya.start, .slice sya na ca]) ya := fun {V'} hS' => YA.at_ V' fun h => hS' _ (mfa h)
  have hyb : ∀ {V' : World}, StX SX V' → YAt V' (.agg #[I yb.size, I yb.start, .slice syb nb cb]) yb := fun {V'} hS' => YB.at_ V' fun h => hS' _ (mfb h)
  have box : ∀ {V' : World}, StX SX V' → (V'.cell? ⟨ba, 0, none⟩ = some (I ya.size) ∧ V'.cell? ⟨ba, 1, none⟩ = some (I ya.start) ∧ V'.cell? ⟨ba, 2, none⟩ = some (.slice sya na ca)) ∧ V'.cell? ⟨bb, 0, none⟩ = some (I yb.size) ∧ V'.cell? ⟨bb, 1, none⟩ = some (I yb.start) ∧ V'.cell? ⟨bb, 2, none⟩ = some (.slice syb nb cb) := fun {V'} hS' =>
    ⟨⟨Cy.cell_blk (i := 0) (hS' _ mba) rfl, Cy.cell_blk (i := 1) (hS' _ mba) rfl, Cy.cell_blk (i := 2) (hS' _ mba) rfl⟩, Cy.cell_blk (i := 0) (hS' _ mbb) rfl, Cy.cell_blk (i := 1) (hS' _ mbb) rfl, Cy.cell_blk (i := 2) (hS' _ mbb) rfl⟩
  obtain ⟨⟨c0a, c1a, c2a⟩, c0b, c1b, c2b⟩ := box hS
  have hla : ya.days.length ≤ 1000 := by have := YA.low.few; rw [YA.len]; omega
  have hlb : yb.days.length ≤ 1000 := by have := YB.low.few; rw [YB.len]; omega
  cases hfar : farY ya
  rotate_left
  · refine goS_step 12 rfl fun K Q hK hQ => ?_
    simp only [cd3, code3, Try.f3, Option.getD_some, Cy.sqL, Cy.sqR]
    go_wp2_with (first | (go_at_call 11; refine (yFar_any _ ya _ (hya hS)).mono ?_; rintro e w1 ⟨rfl, hb1⟩; rw [hfar]) | (go_at_call 8; refine (rained_any _).mono ?_; rintro e w2 ⟨rfl, hb2⟩))
    have hl2 := low_ofH hB (low_of hB hlow hb1) hb2
    exact end_here0 rfl rfl hpost (hB_of hvv hl2) (by have := hl2.size; omega)
  cases hva : yValid ya
  · have hck : yChk ya = 100 := by simp [yChk, hva]
    refine goS_step 12 rfl fun K Q hK hQ => ?_
    simp only [cd3, code3, Try.f3, Option.getD_some, Cy.sqL, Cy.sqR]
    go_wp2_with (first | (go_at_call 11; refine (yFar_any _ ya _ (hya hS)).mono ?_; rintro e w1 ⟨rfl, hb1⟩; rw [hfar]; have hS1 := hS.below hb1.block; obtain ⟨⟨e0a, e1a, e2a⟩, e0b, e1b, e2b⟩ := box hS1) | (go_at_call 12; refine (r10Check_any _ ya _ (hya hS1) hla).mono ?_; rintro e w3 ⟨rfl, hb3⟩; rw [hck]) | (go_at_call 8; refine (rained_any _).mono ?_; rintro e w2 ⟨rfl, hb2⟩))
    have hl2 := low_ofH hB (low_of hB (low_of hB hlow hb1) hb3) hb2
    exact end_here0 rfl rfl hpost (hB_of hvv hl2) (by have := hl2.size; omega)
  have hvb := nar_valid hnar hva
  have hcka : yChk ya = 0 := by simp [yChk, hva]
  have hckb : yChk yb = 0 := by simp [yChk, hvb]
  refine goS_step 12 rfl fun K Q hK hQ => ?_
  simp only [cd3, code3, Try.f3, Option.getD_some, Cy.sqL, Cy.sqR]
  go_wp2_with (first | (go_at_call 11; refine (yFar_any _ ya _ (hya hS)).mono ?_; rintro e w1 ⟨rfl, hb1⟩; rw [hfar]; have hS1 := hS.below hb1.block; obtain ⟨⟨e0a, e1a, e2a⟩, e0b, e1b, e2b⟩ := box hS1) | (go_at_call 12; refine (r10Check_any _ ya _ (hya hS1) hla).mono ?_; rintro e w3 ⟨rfl, hb3⟩; rw [hcka]; have hS3 := hS1.below hb3.block; obtain ⟨⟨g0a, g1a, g2a⟩, g0b, g1b, g2b⟩ := box hS3))
  refine goS_step 13 rfl fun K Q hK hQ => ?_
  simp only [cd3, code3, Try.f3, Option.getD_some, Cy.sqL, Cy.sqR]
  go_wp2_with (go_at_call 12; refine (r10Check_any _ yb _ (hyb hS3) hlb).mono ?_; rintro e w4 ⟨rfl, hb4⟩; rw [hckb]; have hS4 := hS3.below hb4.block; obtain ⟨⟨h0a, h1a, h2a⟩, h0b, h1b, h2b⟩ := box hS4)
  have hl4 := low_of hB (low_of hB (low_of hB hlow hb1) hb3) hb4
  show GoS _ _ _ _ _ (.seq (.region 20 (Cy.opsO (Cy.sqL (cd3 14))) false) (cd3 15)) _ _
  refine goS_into ?_
  refine goS_region ?_
  generalize hk3 : cd3 15 = kk
  simp only [cd3, code3, Try.f3, Option.getD_some, Cy.sqL, Cy.sqR, Cy.opsO]
  show GoL _ _ _ _ _ _ [0, 1, 2, 3, 4, 5, 6] _ _
  refine goL_value rfl rfl (v := .agg #[I ya.size, I ya.start, .slice sya na ca]) (w' := _) (by simp [execOp, go_sem, Act.eval, h0a, h1a, h2a]; rfl) ?_
  refine goL_here ⟨_, [], _, rfl, .inl rfl, ?_⟩
  subst hk3
  simp only [Act.put, List.setIfInBounds_toArray]
  refine Cy.ok0_of (hB_of hvv hl4) (by have := hl4.size; omega) fun v' hsz hag => ?_
  have C : Car B w0 Post ya yb sya na ca fa dca syb nb cb fb dcb ba bb bx pt lo hi day SX := ⟨YA, YB, hva, hvb, hnar, hX, mfa, mfb, mba, mbb, mbx, hpost⟩
  have hS5 : StX SX v' := fun p hp => (hag _ (hge p hp)).trans (hS4 p hp)
  refine dry_ok rfl rfl (by decide) rfl C.A rfl C.va C.X C.fa hS5 (tam3 rfl (by decide +kernel) (by decide +kernel)) (fun f hf => by simp at hf) fun v2 hsz2 hS' => ?_
  obtain ⟨ka, ea, ha, hka⟩ := dryV_is ya
  rw [ha]
  simp only [Act.put]
  exact piece_b C hka hS'
end Go.Proofs.Ytpolipcicfjkiaa
/- TopRained: the two years' rains. Conditions: as stated. -/
namespace Go.Proofs.Ytpolipcicfjkiaa
open Go.RowKit
open Go.Proofs.Ytpolipcicfjkiaa.Cy (stepD runD)

theorem LineAt.belowH {w w' : World} {v : Value} {d : DLine} (h : LineAt w v d) (hb : Cy.BelowH w.heap.size w w') : LineAt w' v d := by
  obtain ⟨pv, ov, h1, h2, h3⟩ := h
  exact ⟨pv, ov, h1, Reads.belowH h2 hb, Reads.belowH h3 hb⟩
set_option maxRecDepth 100000 in
set_option maxHeartbeats 8000000 in
theorem piece_a3 {x0 x1 x2 x6 x7 x9 x10 x11 x12 x13 x14 x15 x16 x17 x18 x19 x20 x21 x22 x23 x24 x25 x26 x27 x28 x29 x30 x31 x32 x33 x34 x35 x36 x37 x38 x39 x40 x41 x42 x43 x44 x45 x46 x47 x48 x49 x50 x51 x52 x53 x54 x55 x56 x57 x58 x59 x60 x61 x62 x63 x64 x65 x66 x67 x68 x69 x70 x71 x72 x73 x74 x75 x76 x77 x78 x79 x80 x81 x82 x83 x84 x85 x86 x87 x88 x89 x90 x91 x92 x93 x94 x95 x96 x97 x98 x99 x100 x101 x102 x103 x104 x105 x106 x107 x108 x109 x110 x111 x112 x113 x114 x115 x116 x117 x118 x119 x120 x121 x122 x123 x124 x125 x126 x127 x128 x129 x130 x131 x132 x133 x134 x135 x136 x137 x138 x139 x140 x141 x142 x143 x144 x145 x146 x147 x148 x149 x150 x151 x152 x153 x154 x155 x156 x157 x158 x159 x160 x161 x162 x163 x164 x165 x166 x167 x168 x169 x170 x171 x172 x173 x174 x175 x176 x177 x178 x179 x180 x181 x182 x183 x184 x185 x186 x187 x188 x189 x190 x191 x192 x193 x194 x195 x196 x197 x198 x199 x200 x201 x202 x203 x204 x205 x206 x207 x208 x209 x210 x211 x212 x213 x214 x215 x216 x217 x218 x219 x220 x221 x222 x223 x224 x225 x226 x227 x228 x229 x230 x231 x232 x233 x234 x235 x236 x237 x238 x239 x240 x241 x242 x243 x244 x245 x246 x247 x248 x249 x250 x251 x252 x253 x254 x255 x256 x257 x258 x259 x260 x261 x262 x263 x264 x265 x266 x267 x268 x269 x270 x271 x272 x273 x274 x275 x276 x277 x278 x279 x280 x281 x282 x283 x284 x285 x286 x287 x288 x289 x290 x291 x292 x293 x294 x295 x296 : Value} {B : Nat} {w0 : World} {Post : Value → World → Prop} {c0 : Nat → Cy.Cls} {vv V : World} {y : CY} {d : DLine} {pv dp dq : Value} {pt lo hi day : Int} {by_ bd bx : Nat} {bo : Nat} {op oq : Value} {D : DLine} (hvv : vv.heap = (Cy.view c0 0 w0).heap) (hB : vv.heap.size = B) (hlow : Cy.BelowH B vv V) (hpost : ∀ w, Cy.Old B w0 w → Post (.bool true) w)
    (hY : YAt vv (.agg #[I y.size, I y.start, pv]) y) (hD : LineAt vv (.agg #[dp, dq]) d) (hS : StX [(by_, #[I y.size, I y.start, pv], 24), (bd, #[dp, dq], 28), (bx, #[I pt, I lo, I hi, I day], 32)] V) (hge : B ≤ by_ ∧ B ≤ bd ∧ B ≤ bx)
    (hO : StX [(bo, #[op, oq], 28)] V) (hDo : LineAt V (.agg #[op, oq]) D) (hN : Narrow d D) (hyl : y.days.length ≤ 40) (hyd : y.days.length ≤ d.pts.length) (hd1 : d.odds.length ≤ 1000) (hd2 : d.pts.length ≤ 1000) : GoS PA.prog (Cy.AtOk0 B w0 Post c0) (Go.Conc.base 3) [] ([] ++ [Cy.trap]) (cd3 9) ⟨#[x0, x1, x2, .pointer (some ⟨by_, 0, none⟩), .pointer (some ⟨bd, 0, none⟩), .pointer (some ⟨bx, 0, none⟩), x6, x7, .pointer (some ⟨bo, 0, none⟩), x9, x10, x11, x12, x13, x14, x15, x16, x17, x18, x19, x20, x21, x22, x23, x24, x25, x26, x27, x28, x29, x30, x31, x32, x33, x34, x35, x36, x37, x38, x39, x40, x41, x42, x43, x44, x45, x46, x47, x48, x49, x50, x51, x52, x53, x54, x55, x56, x57, x58, x59, x60, x61, x62, x63, x64, x65, x66, x67, x68, x69, x70, x71, x72, x73, x74, x75, x76, x77, x78, x79, x80, x81, x82, x83, x84, x85, x86, x87, x88, x89, x90, x91, x92, x93, x94, x95, x96, x97, x98, x99, x100, x101, x102, x103, x104, x105, x106, x107, x108, x109, x110, x111, x112, x113, x114, x115, x116, x117, x118, x119, x120, x121, x122, x123, x124, x125, x126, x127, x128, x129, x130, x131, x132, x133, x134, x135, x136, x137, x138, x139, x140, x141, x142, x143, x144, x145, x146, x147, x148, x149, x150, x151, x152, x153, x154, x155, x156, x157, x158, x159, x160, x161, x162, x163, x164, x165, x166, x167, x168, x169, x170, x171, x172, x173, x174, x175, x176, x177, x178, x179, x180, x181, x182, x183, x184, x185, x186, x187, x188, x189, x190, x191, x192, x193, x194, x195, x196, x197, x198, x199, x200, x201, x202, x203, x204, x205, x206, x207, x208, x209, x210, x211, x212, x213, x214, x215, x216, x217, x218, x219, x220, x221, x222, x223, x224, x225, x226, x227, x228, x229, x230, x231, x232, x233, x234, x235, x236, x237, x238, x239, x240, x241, x242, x243, x244, x245, x246, x247, x248, x249, x250, x251, x252, x253, x254, x255, x256, x257, x258, x259, x260, x261, x262, x263, x264, x265, x266, x267, x268, x269, x270, x271, x272, x273, x274, x275, x276, x277, x278, x279, x280, x281, x282, x283, x284, x285, x286, x287, x288, x289, x290, x291, x292, x293, x294, x295, x296], []⟩ V := by
  have hYV : ∀ {V' : World}, Cy.BelowH B vv V' → YAt V' (.agg #[I y.size, I y.start, pv]) y := fun h => hY.belowH (by rw [hB]; exact h)
  have hDV : ∀ {V' : World}, Cy.BelowH B vv V' → LineAt V' (.agg #[dp, dq]) d := fun h => LineAt.belowH hD (by rw [hB]; exact h)
  have box : ∀ {V' : World}, StX [(by_, #[I y.size, I y.start, pv], 24), (bd, #[dp, dq], 28), (bx, #[I pt, I lo, I hi, I day], 32)] V' → (V'.cell? ⟨by_, 0, none⟩ = some (I y.size) ∧ V'.cell? ⟨by_, 1, none⟩ = some (I y.start) ∧ V'.cell? ⟨by_, 2, none⟩ = some pv) ∧ (V'.cell? ⟨bd, 0, none⟩ = some dp ∧ V'.cell? ⟨bd, 1, none⟩ = some dq) ∧ V'.cell? ⟨bx, 0, none⟩ = some (I pt) ∧ V'.cell? ⟨bx, 1, none⟩ = some (I lo) ∧ V'.cell? ⟨bx, 2, none⟩ = some (I hi) ∧ V'.cell? ⟨bx, 3, none⟩ = some (I day) := fun {V'} h =>
    ⟨⟨Cy.cell_blk (i := 0) (h (by_, #[I y.size, I y.start, pv], 24) (by simp)) rfl, Cy.cell_blk (i := 1) (h (by_, #[I y.size, I y.start, pv], 24) (by simp)) rfl, Cy.cell_blk (i := 2) (h (by_, #[I y.size, I y.start, pv], 24) (by simp)) rfl⟩,
      ⟨Cy.cell_blk (i := 0) (h (bd, #[dp, dq], 28) (by simp)) rfl, Cy.cell_blk (i := 1) (h (bd, #[dp, dq], 28) (by simp)) rfl⟩,
      Cy.cell_blk (i := 0) (h (bx, #[I pt, I lo, I hi, I day], 32) (by simp)) rfl, Cy.cell_blk (i := 1) (h (bx, #[I pt, I lo, I hi, I day], 32) (by simp)) rfl, Cy.cell_blk (i := 2) (h (bx, #[I pt, I lo, I hi, I day], 32) (by simp)) rfl, Cy.cell_blk (i := 3) (h (bx, #[I pt, I lo, I hi, I day], 32) (by simp)) rfl⟩
  have hf1 : ∀ k, k < y.days.length → (flowR d (k : Nat)).2 = 0 ∧ (flowR d (k : Nat)).1.1 ≤ (flowR d (k : Nat)).1.2 := fun k hk => rain_flow hN.vd hN.cd k (by omega)
  have hf2 : ∀ k, k < y.days.length → (flowR D (k : Nat)).2 = 0 ∧ (flowR D (k : Nat)).1.1 ≤ (flowR D (k : Nat)).1.2 := fun k hk => rain_flow hN.vD hN.cD k (by rw [hN.lp]; omega)
  have hd3 : D.odds.length ≤ 1000 := by rw [hN.lo]; exact hd1
  have hd4 : D.pts.length ≤ 1000 := by rw [hN.lp]; exact hd2
  have hnar := rain_nar hN y hyd
  have hla : (rainY d y).days.length ≤ 366 := by rw [rainY_len]; omega
  have hlb : (rainY D y).days.length ≤ 366 := by rw [rainY_len]; omega
  have HN := Lib.hid hN
  clear hN hyd
  obtain ⟨ya, hga⟩ : ∃ x, rainY d y = x := ⟨_, rfl⟩
  obtain ⟨yb, hgb⟩ : ∃ x, rainY D y = x := ⟨_, rfl⟩
  rw [hga] at hnar hla
  rw [hgb] at hnar hlb
  obtain ⟨⟨c0, c1, c2⟩, ⟨d0, d1⟩, x0', x1', x2', x3'⟩ := box hS
  have HF1 := Lib.hid hf1
  have HF2 := Lib.hid hf2
  have HGA := Lib.hid hga
  have HGB := Lib.hid hgb
  clear hf1 hf2 hga hgb
  refine goS_step 9 rfl fun K Q hK hQ => ?_
  simp only [cd3, code3, Try.f3, Option.getD_some, Cy.sqL, Cy.sqR]
  go_wp2_with (go_at_call 10; refine (rains_any _ y _ d _ (hYV hlow) (by omega) (hDV hlow) hd1 hd2 HF1.out).mono ?_; rintro e w1 ⟨v', rfl, hown, hb1⟩; rw [HGA.out] at hown; obtain ⟨sya, na, ca, fa, dca, YA, hfa⟩ := yr_of_own hown hla; obtain rfl := YA.val)
  have hl1 := low_of hB hlow hb1
  have hS1 := hS.below hb1.block
  have hO1 := hO.below hb1.block
  have hDo1 := hDo.below hb1
  have hba : Below w1.heap.size w1 (w1.alloc (.cells #[I ya.size, I ya.start, .slice sya na ca] 24)) := (Below.refl _ _).alloc (Nat.le_refl _) _
  have HA2 := Lib.hid (Cy.hb_new w1 (.cells #[I ya.size, I ya.start, .slice sya na ca] 24)).blk
  have HS2 := Lib.hid (hS1.below hba.block)
  have hO2 := hO1.below hba.block
  have HL2 := Lib.hid (low_of hB hl1 hba)
  have HD2 := Lib.hid (hDo1.below hba)
  have HFA := Lib.hid (fun h => (⟨(hfa h).1, (hba.block _ (Array.getElem?_eq_some_iff.1 (hfa h).2).1).trans (hfa h).2⟩ : V.heap.size + 3 ≤ fa ∧ _))
  have hs1 := hb1.size
  have hsB := hlow.size
  obtain ⟨⟨e0, e1, e2⟩, ⟨g0, g1⟩, _⟩ := box HS2.out
  have o0 := Cy.cell_blk (i := 0) (hO2 _ (List.mem_cons_self ..)) rfl
  have o1 := Cy.cell_blk (i := 1) (hO2 _ (List.mem_cons_self ..)) rfl
  simp only [List.getElem_toArray, List.getElem_cons_zero, List.getElem_cons_succ] at o0 o1
  refine goS_step 10 rfl fun K Q hK hQ => ?_
  simp only [cd3, code3, Try.f3, Option.getD_some, Cy.sqL, Cy.sqR]
  go_wp2_with (go_at_call 10; refine (rains_any _ y _ D _ (hYV HL2.out) (by omega) HD2.out hd3 hd4 HF2.out).mono ?_; rintro e w2 ⟨v', rfl, hown2, hb2⟩; rw [HGB.out] at hown2; obtain ⟨syb, nb, cb, fb, dcb, YB, hfb⟩ := yr_of_own hown2 hlb; obtain rfl := YB.val)
  have hs2 := hb2.size
  have hsz : (w1.alloc (.cells #[I ya.size, I ya.start, .slice sya na ca] 24)).heap.size = w1.heap.size + 1 := by simp
  have hbb : Below w2.heap.size w2 (w2.alloc (.cells #[I yb.size, I yb.start, .slice syb nb cb] 24)) := (Below.refl _ _).alloc (Nat.le_refl _) _
  refine goS_step 11 rfl fun K Q hK hQ => ?_
  simp only [cd3, code3, Try.f3, Option.getD_some, Cy.sqL, Cy.sqR]
  go_wp2_with fail
  have key : ∀ {b : Nat} {o : Obj}, (w1.alloc (.cells #[I ya.size, I ya.start, .slice sya na ca] 24)).heap[b]? = some o → (w2.alloc (.cells #[I yb.size, I yb.start, .slice syb nb cb] 24)).heap[b]? = some o := fun {b o} h => by
    have h1 := (hb2.block _ (Array.getElem?_eq_some_iff.1 h).1).trans h
    exact (hbb.block _ (Array.getElem?_eq_some_iff.1 h1).1).trans h1
  refine piece_a4 hvv hB (low_of hB (low_of hB HL2.out hb2) hbb) hpost YA YB hnar (ba := w1.heap.size) (bb := w2.heap.size) (bx := bx) (pt := pt) (lo := lo) (hi := hi) (day := day) ?_ ?_
  all_goals intro p hp
  · simp only [List.mem_cons, List.mem_append] at hp
    rcases hp with rfl | rfl | rfl | hp | hp
    · exact key HA2.out
    · exact (Cy.hb_new w2 _).blk
    · exact key (HS2.out (bx, #[I pt, I lo, I hi, I day], 32) (by simp))
    · split at hp
      · rename_i h0
        obtain rfl := List.mem_singleton.1 hp
        exact key (HFA.out h0).2
      · simp at hp
    · split at hp
      · rename_i h0
        obtain rfl := List.mem_singleton.1 hp
        exact (hbb.block _ (Array.getElem?_eq_some_iff.1 (hfb h0).2).1).trans (hfb h0).2
      · simp at hp
  · simp only [List.mem_cons, List.mem_append] at hp
    rcases hp with rfl | rfl | rfl | hp | hp
    · show B ≤ w1.heap.size; omega
    · show B ≤ w2.heap.size; omega
    · exact hge.2.2
    · split at hp
      · rename_i h0
        obtain rfl := List.mem_singleton.1 hp
        have := (HFA.out h0).1
        show B ≤ fa; omega
      · simp at hp
    · split at hp
      · rename_i h0
        obtain rfl := List.mem_singleton.1 hp
        have := (hfb h0).1
        show B ≤ fb; omega
      · simp at hp
end Go.Proofs.Ytpolipcicfjkiaa
/- TopRained: the copy of the line, turned. Conditions: as stated. -/
namespace Go.Proofs.Ytpolipcicfjkiaa
open Go.RowKit
open Go.Proofs.Ytpolipcicfjkiaa.Cy (stepD runD)

theorem goS_world {P : Program} {S : Machine → Prop} {b : Frame} {k : List Item} {cs : List Frame} {c : Code} {a : Act} {w : World} {F : World → Prop} (hF : F w) (h : ∀ w', F w' → GoS P S b k cs c a w') : GoS P S b k cs c a w := h w hF
theorem StX.set {SX : List (Nat × Array Value × TypeId)} {v : World} (h : StX SX v) {q : Addr} {u : Value} (hq : ∀ p ∈ SX, p.1 ≠ q.block) : StX SX (v.setCell q u) := fun p hp => (Cy.setCell_ne _ _ _ (hq p hp)).trans (h p hp)
theorem low_set {B : Nat} {vv V : World} (h : Cy.BelowH B vv V) {q : Addr} {u : Value} (hq : B ≤ q.block) : Cy.BelowH B vv (V.setCell q u) := ⟨by have := h.size; simpa using this, fun k hk => (Cy.setCell_ne _ _ _ (by omega)).trans (h.block k hk)⟩
theorem OwnAt.far {w : World} {base g cap : Nat} {ov : Value} {d : DLine} (h : OwnAt w base g cap ov d) {q : Addr} {u : Value} (hq : g ≠ q.block) (ho : ov.ownBlock ≠ some q.block) : OwnAt (w.setCell q u) base g cap ov d :=
  ⟨own_setOther h.pts q u (by simpa [Value.ownBlock] using hq), own_setOther h.odds q u ho⟩

set_option maxRecDepth 100000 in
set_option maxHeartbeats 8000000 in
theorem piece_a2 {x0 x1 x2 x6 x7 x8 x9 x10 x11 x12 x13 x14 x15 x16 x17 x18 x19 x20 x21 x22 x23 x24 x25 x26 x27 x28 x29 x30 x31 x32 x33 x34 x35 x36 x37 x38 x39 x40 x41 x42 x43 x44 x45 x46 x47 x48 x49 x50 x51 x52 x53 x54 x55 x56 x57 x58 x59 x60 x61 x62 x63 x64 x65 x66 x67 x68 x69 x70 x71 x72 x73 x74 x75 x76 x77 x78 x79 x80 x81 x82 x83 x84 x85 x86 x87 x88 x89 x90 x91 x92 x93 x94 x95 x96 x97 x98 x99 x100 x101 x102 x103 x104 x105 x106 x107 x108 x109 x110 x111 x112 x113 x114 x115 x116 x117 x118 x119 x120 x121 x122 x123 x124 x125 x126 x127 x128 x129 x130 x131 x132 x133 x134 x135 x136 x137 x138 x139 x140 x141 x142 x143 x144 x145 x146 x147 x148 x149 x150 x151 x152 x153 x154 x155 x156 x157 x158 x159 x160 x161 x162 x163 x164 x165 x166 x167 x168 x169 x170 x171 x172 x173 x174 x175 x176 x177 x178 x179 x180 x181 x182 x183 x184 x185 x186 x187 x188 x189 x190 x191 x192 x193 x194 x195 x196 x197 x198 x199 x200 x201 x202 x203 x204 x205 x206 x207 x208 x209 x210 x211 x212 x213 x214 x215 x216 x217 x218 x219 x220 x221 x222 x223 x224 x225 x226 x227 x228 x229 x230 x231 x232 x233 x234 x235 x236 x237 x238 x239 x240 x241 x242 x243 x244 x245 x246 x247 x248 x249 x250 x251 x252 x253 x254 x255 x256 x257 x258 x259 x260 x261 x262 x263 x264 x265 x266 x267 x268 x269 x270 x271 x272 x273 x274 x275 x276 x277 x278 x279 x280 x281 x282 x283 x284 x285 x286 x287 x288 x289 x290 x291 x292 x293 x294 x295 x296 : Value} {B : Nat} {w0 : World} {Post : Value → World → Prop} {c0 : Nat → Cy.Cls} {vv V : World} {y : CY} {d : DLine} {pv dp dq : Value} {lo hi day : Int} {p : Nat} {by_ bd bx : Nat} (hvv : vv.heap = (Cy.view c0 0 w0).heap) (hB : vv.heap.size = B) (hlow : Cy.BelowH B vv V) (hpost : ∀ w, Cy.Old B w0 w → Post (.bool true) w)
    (hY : YAt vv (.agg #[I y.size, I y.start, pv]) y) (hD : LineAt vv (.agg #[dp, dq]) d) (hS : StX [(by_, #[I y.size, I y.start, pv], 24), (bd, #[dp, dq], 28), (bx, #[I (p : Int), I lo, I hi, I day], 32)] V) (hge : B ≤ by_ ∧ B ≤ bd ∧ B ≤ bx)
    (hvd : valid d = true) (hpl : p < d.pts.length) (hin : insideB (lo, hi) ((d.pts[p]).lo, (d.pts[p]).hi) = true) (hyl : y.days.length ≤ 40) (hyd : y.days.length ≤ d.pts.length) : GoS PA.prog (Cy.AtOk0 B w0 Post c0) (Go.Conc.base 3) [] ([] ++ [Cy.trap]) (cd3 4) ⟨#[x0, x1, x2, .pointer (some ⟨by_, 0, none⟩), .pointer (some ⟨bd, 0, none⟩), .pointer (some ⟨bx, 0, none⟩), x6, x7, x8, x9, x10, x11, x12, x13, x14, x15, x16, x17, x18, x19, x20, x21, x22, x23, x24, x25, x26, x27, x28, x29, x30, x31, x32, x33, x34, x35, x36, x37, x38, x39, x40, x41, x42, x43, x44, x45, x46, x47, x48, x49, x50, x51, x52, x53, x54, x55, x56, x57, x58, x59, x60, x61, x62, x63, x64, x65, x66, x67, x68, x69, x70, x71, x72, x73, x74, x75, x76, x77, x78, x79, x80, x81, x82, x83, x84, x85, x86, x87, x88, x89, x90, x91, x92, x93, x94, x95, x96, x97, x98, x99, x100, x101, x102, x103, x104, x105, x106, x107, x108, x109, x110, x111, x112, x113, x114, x115, x116, x117, x118, x119, x120, x121, x122, x123, x124, x125, x126, x127, x128, x129, x130, x131, x132, x133, x134, x135, x136, x137, x138, x139, x140, x141, x142, x143, x144, x145, x146, x147, x148, x149, x150, x151, x152, x153, x154, x155, x156, x157, x158, x159, x160, x161, x162, x163, x164, x165, x166, x167, x168, x169, x170, x171, x172, x173, x174, x175, x176, x177, x178, x179, x180, x181, x182, x183, x184, x185, x186, x187, x188, x189, x190, x191, x192, x193, x194, x195, x196, x197, x198, x199, x200, x201, x202, x203, x204, x205, x206, x207, x208, x209, x210, x211, x212, x213, x214, x215, x216, x217, x218, x219, x220, x221, x222, x223, x224, x225, x226, x227, x228, x229, x230, x231, x232, x233, x234, x235, x236, x237, x238, x239, x240, x241, x242, x243, x244, x245, x246, x247, x248, x249, x250, x251, x252, x253, x254, x255, x256, x257, x258, x259, x260, x261, x262, x263, x264, x265, x266, x267, x268, x269, x270, x271, x272, x273, x274, x275, x276, x277, x278, x279, x280, x281, x282, x283, x284, x285, x286, x287, x288, x289, x290, x291, x292, x293, x294, x295, x296], []⟩ V := by
  have hYV : ∀ {V' : World}, Cy.BelowH B vv V' → YAt V' (.agg #[I y.size, I y.start, pv]) y := fun h => hY.belowH (by rw [hB]; exact h)
  have hDV : ∀ {V' : World}, Cy.BelowH B vv V' → LineAt V' (.agg #[dp, dq]) d := fun h => LineAt.belowH hD (by rw [hB]; exact h)
  have box : ∀ {V' : World}, StX [(by_, #[I y.size, I y.start, pv], 24), (bd, #[dp, dq], 28), (bx, #[I (p : Int), I lo, I hi, I day], 32)] V' → (V'.cell? ⟨by_, 0, none⟩ = some (I y.size) ∧ V'.cell? ⟨by_, 1, none⟩ = some (I y.start) ∧ V'.cell? ⟨by_, 2, none⟩ = some pv) ∧ (V'.cell? ⟨bd, 0, none⟩ = some dp ∧ V'.cell? ⟨bd, 1, none⟩ = some dq) ∧ V'.cell? ⟨bx, 0, none⟩ = some (I (p : Int)) ∧ V'.cell? ⟨bx, 1, none⟩ = some (I lo) ∧ V'.cell? ⟨bx, 2, none⟩ = some (I hi) ∧ V'.cell? ⟨bx, 3, none⟩ = some (I day) := fun {V'} h =>
    ⟨⟨Cy.cell_blk (i := 0) (h (by_, #[I y.size, I y.start, pv], 24) (by simp)) rfl, Cy.cell_blk (i := 1) (h (by_, #[I y.size, I y.start, pv], 24) (by simp)) rfl, Cy.cell_blk (i := 2) (h (by_, #[I y.size, I y.start, pv], 24) (by simp)) rfl⟩,
      ⟨Cy.cell_blk (i := 0) (h (bd, #[dp, dq], 28) (by simp)) rfl, Cy.cell_blk (i := 1) (h (bd, #[dp, dq], 28) (by simp)) rfl⟩,
      Cy.cell_blk (i := 0) (h (bx, #[I (p : Int), I lo, I hi, I day], 32) (by simp)) rfl, Cy.cell_blk (i := 1) (h (bx, #[I (p : Int), I lo, I hi, I day], 32) (by simp)) rfl, Cy.cell_blk (i := 2) (h (bx, #[I (p : Int), I lo, I hi, I day], 32) (by simp)) rfl, Cy.cell_blk (i := 3) (h (bx, #[I (p : Int), I lo, I hi, I day], 32) (by simp)) rfl⟩
  obtain ⟨hn7, hnp, -⟩ := valid_spec hvd
  have hl1 : d.odds.length ≤ 1000 := by omega
  have hl2 : d.pts.length ≤ 1000 := by omega
  have hpos : 0 < d.pts.length := by omega
  obtain ⟨⟨c0, c1, c2⟩, ⟨d0, d1⟩, z0, z1, z2, z3⟩ := box hS
  have HVD := Lib.hid hvd
  have HIN := Lib.hid hin
  clear hvd hin hnp hn7
  refine goS_step 4 rfl fun K Q hK hQ => ?_
  simp only [cd3, code3, Try.f3, Option.getD_some, Cy.sqL, Cy.sqR]
  go_wp2_with (go_at_call 9; refine (copy_any _ d _ (hDV hlow) hl1 hl2).mono ?_; rintro e w1 ⟨v', rfl, hown, hb1⟩; obtain ⟨g, cap, A3, c3', rfl, hg1, hg2, hO⟩ := hown.at_ hpos)
  have hl3 := low_of hB hlow hb1
  have hS1 := hS.below hb1.block
  have hs1 := hb1.size
  have hsB := hlow.size
  have hbo : Below w1.heap.size w1 (w1.alloc (.cells #[.slice (some ⟨g, 0, none⟩) d.pts.length cap, .slice A3 d.odds.length c3'] 28)) := (Below.refl _ _).alloc (Nat.le_refl _) _
  have hS2 := hS1.below hbo.block
  have hO2 := hO.below hbo
  have hlt : ∀ q ∈ ([(by_, #[I y.size, I y.start, pv], 24), (bd, #[dp, dq], 28), (bx, #[I (p : Int), I lo, I hi, I day], 32)] : List (Nat × Array Value × TypeId)), q.1 < V.heap.size := fun q hq => (Array.getElem?_eq_some_iff.1 (hS q hq)).1
  have hby := hlt _ (List.mem_cons_self ..)
  have hbd := hlt _ (List.mem_cons_of_mem _ (List.mem_cons_self ..))
  have hbx := hlt _ (List.mem_cons_of_mem _ (List.mem_cons_of_mem _ (List.mem_cons_self ..)))
  simp only at hby hbd hbx
  have HoA := Lib.hid (show ∀ k, w1.heap.size ≤ k → (Value.slice A3 d.odds.length c3').ownBlock ≠ some k from fun k hk e => by have := (hO.odds.lt k e).2; omega)
  obtain ⟨pq, hpq⟩ : ∃ q, d.pts[p] = q := ⟨_, rfl⟩
  have hpz : (p : Int) < (d.pts.length : Int) := by omega
  -- the world behind the copy
  refine goS_world (F := fun W => Cy.BelowH B vv W ∧ StX [(by_, #[I y.size, I y.start, pv], 24), (bd, #[dp, dq], 28), (bx, #[I (p : Int), I lo, I hi, I day], 32)] W ∧ StX [(w1.heap.size, #[.slice (some ⟨g, 0, none⟩) d.pts.length cap, .slice A3 d.odds.length c3'], 28)] W ∧ OwnAt W V.heap.size g cap (.slice A3 d.odds.length c3') d ∧ W.heap.size = w1.heap.size + 1) ⟨low_of hB hl3 hbo, hS2, fun q hq => by
    obtain rfl := List.mem_singleton.1 hq
    exact (Cy.hb_new w1 _).blk, hO2, by simp⟩ ?_
  rintro W2 ⟨low2, st2, bo2, own2, sz2⟩
  have HSZ := Lib.hid sz2
  clear sz2
  obtain ⟨-, -, y0, y1, y2, y3⟩ := box st2
  have q0 := Cy.cell_blk (i := 0) (bo2 _ (List.mem_cons_self ..)) rfl
  have q1 := Cy.cell_blk (i := 1) (bo2 _ (List.mem_cons_self ..)) rfl
  have k0 : W2.cell? ⟨g, p * 3, none⟩ = some (I pq.lo) := by rw [own2.pts.cellAt (p * 3) (by omega), ← hpq]; exact (ptCells_at _ _ hpl).1
  have k1 : W2.cell? ⟨g, p * 3 + 1, none⟩ = some (I pq.hi) := by rw [own2.pts.cellAt (p * 3 + 1) (by omega), ← hpq]; exact (ptCells_at _ _ hpl).2.1
  have k2 : W2.cell? ⟨g, p * 3 + 2, none⟩ = some (I pq.cost) := by rw [own2.pts.cellAt (p * 3 + 2) (by omega), ← hpq]; exact (ptCells_at _ _ hpl).2.2
  simp only [List.getElem_toArray, List.getElem_cons_zero, List.getElem_cons_succ] at q0 q1
  have HPQ := Lib.hid hpq
  have HO2 := Lib.hid own2
  have HbW := Lib.hid (show Below W2.heap.size W2 (W2.alloc (.cells #[I pq.lo, I pq.hi, I pq.cost] 39)) from (Below.refl _ _).alloc (Nat.le_refl _) _)
  clear hpq own2 hO hO2 hown hb1 hbo c0 c1 c2 d0 d1 z0 z1 z2 z3 hlt
  refine goS_step 5 rfl fun K Q hK hQ => ?_
  simp only [cd3, code3, Try.f3, Option.getD_some, Cy.sqL, Cy.sqR]
  go_wp2_with fail
  refine goS_world (F := fun W => Cy.BelowH B vv W ∧ StX [(by_, #[I y.size, I y.start, pv], 24), (bd, #[dp, dq], 28), (bx, #[I (p : Int), I lo, I hi, I day], 32)] W ∧ StX [(w1.heap.size, #[.slice (some ⟨g, 0, none⟩) d.pts.length cap, .slice A3 d.odds.length c3'], 28)] W ∧ OwnAt W V.heap.size g cap (.slice A3 d.odds.length c3') d ∧ W.heap[W2.heap.size]? = some (.cells #[I pq.lo, I pq.hi, I pq.cost] 39)) ⟨low_of hB low2 HbW.out, st2.below HbW.out.block, bo2.below HbW.out.block, HO2.out.below HbW.out, (Cy.hb_new W2 _).blk⟩ ?_
  clear y0 y1 y2 y3 q0 q1 k0 k1 k2 HbW HO2
  rintro W3 ⟨low3, st3, bo3, own3, bp3⟩
  obtain ⟨-, -, y0, y1, y2, y3⟩ := box st3
  have p0 := Cy.cell_blk (i := 0) bp3 rfl
  have p1 := Cy.cell_blk (i := 1) bp3 rfl
  have p2 := Cy.cell_blk (i := 2) bp3 rfl
  have u0 := Cy.thaw_blk (i := 0) bp3
  have u1 := Cy.thaw_blk (i := 1) bp3
  simp only [List.getElem_toArray, List.getElem_cons_zero, List.getElem_cons_succ] at p0 p1 p2
  have HO3 := Lib.hid own3
  clear own3
  refine goS_step 6 rfl fun K Q hK hQ => ?_
  simp only [cd3, code3, Try.f3, Option.getD_some, Cy.sqL, Cy.sqR]
  go_wp2_with fail
  have sz2 := HSZ.out
  have w0' : ∀ u u', ((W3.setCell ⟨W2.heap.size, 0, none⟩ u).setCell ⟨W2.heap.size, 1, none⟩ u').cell? ⟨W2.heap.size, 0, none⟩ = some u := fun u u' => by
    rw [World.cell?_setCell_other _ _ _ _ (by simp)]
    exact World.cell?_setCell_same _ _ _ p0
  have w1' : ∀ u u', ((W3.setCell ⟨W2.heap.size, 0, none⟩ u).setCell ⟨W2.heap.size, 1, none⟩ u').cell? ⟨W2.heap.size, 1, none⟩ = some u' := fun u u' =>
    World.cell?_setCell_same _ _ _ (by rw [World.cell?_setCell_other _ _ _ _ (by simp)]; exact p1)
  have w2' : ∀ u u', ((W3.setCell ⟨W2.heap.size, 0, none⟩ u).setCell ⟨W2.heap.size, 1, none⟩ u').cell? ⟨W2.heap.size, 2, none⟩ = some (I pq.cost) := fun u u' => by
    rw [World.cell?_setCell_other _ _ _ _ (by simp), World.cell?_setCell_other _ _ _ _ (by simp)]
    exact p2
  have hnX : ∀ q ∈ ([(by_, #[I y.size, I y.start, pv], 24), (bd, #[dp, dq], 28), (bx, #[I (p : Int), I lo, I hi, I day], 32)] : List (Nat × Array Value × TypeId)), q.1 ≠ W2.heap.size := fun q hq => by
    simp only [List.mem_cons, List.not_mem_nil, or_false] at hq
    rcases hq with rfl | rfl | rfl
    · show by_ ≠ _; omega
    · show bd ≠ _; omega
    · show bx ≠ _; omega
  have hnO : ∀ q ∈ ([(w1.heap.size, #[.slice (some ⟨g, 0, none⟩) d.pts.length cap, .slice A3 d.odds.length c3'], 28)] : List (Nat × Array Value × TypeId)), q.1 ≠ W2.heap.size := fun q hq => by
    obtain rfl := List.mem_singleton.1 hq
    show w1.heap.size ≠ _; omega
  refine goS_world (F := fun W => Cy.BelowH B vv W ∧ StX [(by_, #[I y.size, I y.start, pv], 24), (bd, #[dp, dq], 28), (bx, #[I (p : Int), I lo, I hi, I day], 32)] W ∧ StX [(w1.heap.size, #[.slice (some ⟨g, 0, none⟩) d.pts.length cap, .slice A3 d.odds.length c3'], 28)] W ∧ OwnAt W V.heap.size g cap (.slice A3 d.odds.length c3') d ∧ W.cell? ⟨W2.heap.size, 0, none⟩ = some (I lo) ∧ W.cell? ⟨W2.heap.size, 1, none⟩ = some (I hi) ∧ W.cell? ⟨W2.heap.size, 2, none⟩ = some (I pq.cost))
    ⟨low_set (low_set low3 (by show B ≤ W2.heap.size; omega)) (by show B ≤ W2.heap.size; omega), (st3.set hnX).set hnX, (bo3.set hnO).set hnO, (HO3.out.far (by show g ≠ W2.heap.size; omega) (HoA.out _ (by show w1.heap.size ≤ W2.heap.size; omega))).far (by show g ≠ W2.heap.size; omega) (HoA.out _ (by show w1.heap.size ≤ W2.heap.size; omega)), w0' _ _, w1' _ _, w2' _ _⟩ ?_
  clear y0 y1 y2 y3 p0 p1 p2 u0 u1 w0' w1' w2' HO3 sz2
  rintro W4 ⟨low4, st4, bo4, own4, p0, p1, p2⟩
  obtain ⟨-, -, y0, y1, y2, y3⟩ := box st4
  have q0 := Cy.cell_blk (i := 0) (bo4 _ (List.mem_cons_self ..)) rfl
  have q1 := Cy.cell_blk (i := 1) (bo4 _ (List.mem_cons_self ..)) rfl
  simp only [List.getElem_toArray, List.getElem_cons_zero, List.getElem_cons_succ] at q0 q1
  obtain ⟨v0, v1, v2, k0, k1, k2, f0, f1, f2⟩ := own4.ptAt p hpl
  have HO4 := Lib.hid own4
  clear own4
  refine goS_step 7 rfl fun K Q hK hQ => ?_
  simp only [cd3, code3, Try.f3, Option.getD_some, Cy.sqL, Cy.sqR]
  go_wp2_with fail
  have hvd2 : valid (setFlow d p lo hi) = true := by
    have h := (inside_iff _ _).1 HIN.out
    have h' := valid_pt HVD.out p hpl
    rw [show d.pts.getD p default = d.pts[p] by simp [List.getD, List.getElem?_eq_getElem hpl]] at h'
    simp only at h
    exact setFlow_valid HVD.out p lo hi (by omega) (by omega) (by omega)
  have hnw : oneB (setFlow d p lo hi) = true → Narrow d (setFlow d p lo hi) := fun h => narrow_of HVD.out p hpl lo hi HIN.out h
  have hset : setPt d p ⟨lo, hi, pq.cost⟩ = setFlow d p lo hi := by
    unfold setPt setFlow
    congr 1
    apply List.ext_getElem?
    intro i
    rw [List.getElem?_modify, List.getElem?_set]
    by_cases e : p = i
    · subst e; rw [if_pos rfl, if_pos hpl, List.getElem?_eq_getElem hpl, HPQ.out]; simp
    · simp [e]
  have hnG : ∀ q ∈ ([(by_, #[I y.size, I y.start, pv], 24), (bd, #[dp, dq], 28), (bx, #[I (p : Int), I lo, I hi, I day], 32)] : List (Nat × Array Value × TypeId)), q.1 ≠ g := fun q hq => by
    simp only [List.mem_cons, List.not_mem_nil, or_false] at hq
    rcases hq with rfl | rfl | rfl
    · show by_ ≠ _; omega
    · show bd ≠ _; omega
    · show bx ≠ _; omega
  have hnGO : ∀ q ∈ ([(w1.heap.size, #[.slice (some ⟨g, 0, none⟩) d.pts.length cap, .slice A3 d.odds.length c3'], 28)] : List (Nat × Array Value × TypeId)), q.1 ≠ g := fun q hq => by
    obtain rfl := List.mem_singleton.1 hq
    show w1.heap.size ≠ _; omega
  have hline := (HO4.out.pt p ⟨lo, hi, pq.cost⟩ hpl).line.line
  rw [hset, (setFlow_len d p lo hi).1] at hline
  refine goS_world (F := fun W => Cy.BelowH B vv W ∧ StX [(by_, #[I y.size, I y.start, pv], 24), (bd, #[dp, dq], 28), (bx, #[I (p : Int), I lo, I hi, I day], 32)] W ∧ StX [(w1.heap.size, #[.slice (some ⟨g, 0, none⟩) d.pts.length cap, .slice A3 d.odds.length c3'], 28)] W ∧ LineAt W (.agg #[.slice (some ⟨g, 0, none⟩) d.pts.length cap, .slice A3 d.odds.length c3']) (setFlow d p lo hi))
    ⟨low_set (low_set (low_set low4 (by show B ≤ g; omega)) (by show B ≤ g; omega)) (by show B ≤ g; omega), ((st4.set hnG).set hnG).set hnG, ((bo4.set hnGO).set hnGO).set hnGO, hline⟩ ?_
  clear y0 y1 y2 y3 p0 p1 p2 q0 q1 k0 k1 k2 f0 f1 f2 HO4 hline hnG hnGO
  rintro W5 ⟨low5, st5, bo5, line5⟩
  have q0 := Cy.cell_blk (i := 0) (bo5 _ (List.mem_cons_self ..)) rfl
  have q1 := Cy.cell_blk (i := 1) (bo5 _ (List.mem_cons_self ..)) rfl
  simp only [List.getElem_toArray, List.getElem_cons_zero, List.getElem_cons_succ] at q0 q1
  obtain ⟨D, hDD⟩ : ∃ D, setFlow d p lo hi = D := ⟨_, rfl⟩
  rw [hDD] at hvd2 hnw line5
  have HDD := Lib.hid hDD
  have HVD2 := Lib.hid hvd2
  have HNW := Lib.hid hnw
  have HL5 := Lib.hid line5
  clear hDD hvd2 hnw line5 hset
  cases h1 : oneB D
  · refine goS_step 8 rfl fun K Q hK hQ => ?_
    simp only [cd3, code3, Try.f3, Option.getD_some, Cy.sqL, Cy.sqR]
    go_wp2_with (first | (go_at_call 6; refine (one_any _ D _ HL5.out HVD2.out).mono ?_; rintro e w6 ⟨rfl, hb6⟩; rw [h1]) | (go_at_call 8; refine (rained_any _).mono ?_; rintro e w7 ⟨rfl, hb7⟩))
    have hl7 := low_ofH hB (low_of hB low5 hb6) hb7
    exact end_here0 rfl rfl hpost (hB_of hvv hl7) (by have := hl7.size; omega)
  · refine goS_step 8 rfl fun K Q hK hQ => ?_
    simp only [cd3, code3, Try.f3, Option.getD_some, Cy.sqL, Cy.sqR]
    go_wp2_with (go_at_call 6; refine (one_any _ D _ HL5.out HVD2.out).mono ?_; rintro e w6 ⟨rfl, hb6⟩; rw [h1])
    exact piece_a3 hvv hB (low_of hB low5 hb6) hpost hY hD (st5.below hb6.block) hge (bo5.below hb6.block) (HL5.out.below hb6) (HNW.out h1) hyl hyd hl1 hl2
end Go.Proofs.Ytpolipcicfjkiaa
