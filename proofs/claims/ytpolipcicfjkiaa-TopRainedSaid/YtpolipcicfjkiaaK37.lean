/- Level, told between the phases. Conditions: none. -/
import Derived.Test.YtpolipcicfjkiaaK36
import Derived.Test.YtpolipcicfjkiaaK31
import Derived.Test.YtpolipcicfjkiaaK35
namespace Go.Proofs.Ytpolipcicfjkiaa
open Go.RowKit
open Go.Proofs.Ytpolipcicfjkiaa.Cy (stepD runD)

noncomputable def code18 : Code := (Try.f18.body).getD .skip
def lv0 (y : CY) : Int := if y.size < y.start then y.size else y.start

set_option maxRecDepth 20000 in
set_option maxHeartbeats 4000000 in
theorem level_ok {B : Nat} {w0 v : World} {Post : Value → World → Prop} {b : Frame} {a : Act} {ops : Array Oper} {i : Nat} {rest : List Nat} {k : List Item} {fs : List Frame} {o : Oper} {x z : Operand} (ho : ops[i]? = some o) (hw : Region.wanted o (yielded ops a.tmps) = true) (hk : b.kind ≠ .early)
    (hop : o.op = .call { callee := .value (.func 18), args := #[x, z], argTypes := #[24, 3] }) {y : CY} {yv : Value} {sy : Option Addr} {n capc fb : Nat} {dc : Array Value} {SX : List (Nat × Array Value × TypeId)} {d : Nat} {lo hi : Int × Int × Int} (hY : Yr y yv sy n capc fb dc) (hx : a.eval x = yv) (hz : a.eval z = I d) (hval : yValid y = true) (hdn : d < n)
    (hlo : (runD y.size (lv0 y) (lowD y))[d]? = some lo) (hhi : (runD y.size (lv0 y) (highD y))[d]? = some hi)
    (hX : Cy.Rows59 SX) (hfb : 0 < n → (fb, dc, 59) ∈ SX) (hS : StX SX v) (hT : Cy.TamF (b.at a (.inRegion ops (i :: rest) :: k))) (hTs : ∀ f ∈ fs, Cy.TamF f)
    (hnext : ∀ v' : World, v.heap.size ≤ v'.heap.size → StX SX v' → Cy.Ok B w0 Post (b.at (a.put o.dst (.tuple #[.agg #[I lo.1, I hi.1], I 0])) (.inRegion ops rest :: k)) fs v') : Cy.Ok B w0 Post (b.at a (.inRegion ops (i :: rest) :: k)) fs v := by
  obtain rfl := hY.val
  refine Cy.tree_ok (Cy.tame_of hT hTs) fun V hV => ?_
  have hSV := hS.heap hV
  have hsV : v.heap.size = V.heap.size := by rw [hV]
  have hv0 : YAt V (.agg #[I y.size, I y.start, .slice sy n capc]) y := hY.at_ V fun h => hSV _ (hfb h)
  refine goL_call ho hw hk hop PA.func18 (by rfl) (c := code18) rfl (tm := #[.agg #[I y.size, I y.start, .slice sy n capc], I d, undef, undef, undef, undef, undef, undef, undef, undef, undef, undef, undef, undef, undef, undef, undef, undef, undef, undef, undef, undef, undef, undef, undef, undef, undef, undef, undef, undef, undef, undef, undef, undef]) (by
    have : Try.f18.ntmps = 34 := rfl
    simp [hx, hz]) ?_
  have hn1000 : n ≤ 366 := hY.low.few
  have hin : inR (d : Int) 0 ((y.days.length : Int) - 1) = true := by
    rw [hY.len]
    simp [inR]
    omega
  have hb0 : ∀ x x', Below V.heap.size V ((V.alloc x).alloc x') := fun x x' => ((Below.refl _ _).alloc (Nat.le_refl _) _).alloc (by simp) _
  have HV := Lib.hid hv0; clear hv0
  simp only [code18, Try.f18, Option.getD_some]
  refine goS_seq2 fun K Q hK hQ => ?_
  go_wp2_with fail
  have hbx : ((V.alloc (.cells #[I y.size, I y.start, .slice sy n capc] 24)).alloc (.cells #[.int .i64 0, .int .i64 0] 30)).heap[V.heap.size]? = some (.cells #[I y.size, I y.start, .slice sy n capc] 24) := (Cy.hb_old (Cy.hb_new V _) _).blk
  have hbr : ((V.alloc (.cells #[I y.size, I y.start, .slice sy n capc] 24)).alloc (.cells #[.int .i64 0, .int .i64 0] 30)).heap[V.heap.size + 1]? = some (.cells #[.int .i64 0, .int .i64 0] 30) := by
    have := (Cy.hb_new (V.alloc (.cells #[I y.size, I y.start, .slice sy n capc] 24)) (.cells #[.int .i64 0, .int .i64 0] 30)).blk
    simpa using this
  refine goS_seq2 fun K Q hK hQ => ?_
  go_wp2_with fail
  refine wp_region_segK [([0, 1, 2], 3), ([], 4)] [5] [] 6 (by kernel_rfl) (by kernel_rfl) ?_
  intro KQ hKQ wn hb
  have hbW := bto (hb0 _ _) hb
  have hbx1 := (hb.block _ (by simp; omega)).trans hbx
  have hbr1 := (hb.block _ (by simp)).trans hbr
  have j0 := cell_regrown (Cy.cell_blk (i := 0) hbx1 rfl)
  have j1 := cell_regrown (Cy.cell_blk (i := 1) hbx1 rfl)
  have j2 := cell_regrown (Cy.cell_blk (i := 2) hbx1 rfl)
  refine seg_next ?_
  simp only [opsAt, List.filterMap_cons, List.filterMap_nil, List.getElem?_toArray, List.getElem?_cons_succ, List.getElem?_cons_zero]
  repeat (first | go_big_quiet_step (fail) | quiet_step (fail))
  refine wpQuiet_nil ?_
  intro KK hKK
  refine loud_op rfl rfl ?_
  go_simp
  refine (yIsDay_any _ _ _ _ (HV.out.below hbW) (by rw [hY.len]; omega)).mono ?_
  rintro e w6 ⟨rfl, hb6⟩
  rw [hin]
  have hbW6 := bto hbW hb6
  refine hKK _ _ hb6 ?_
  clear hKK KK j0 j1 j2
  refine seg_next ?_
  simp only [opsAt, List.filterMap_nil]
  refine wpQuiet_nil ?_
  intro KK hKK
  refine loud_op rfl rfl ?_
  go_simp
  refine (yAsk_any _ _ _ _ (HV.out.below hbW6)).mono ?_
  rintro e w7 ⟨rfl, hb7⟩
  rw [if_pos hval, if_pos rfl]
  have hbW7 := bto hbW6 hb7
  have hbx2 := (hb7.block _ (Nat.lt_of_lt_of_le (Array.getElem?_eq_some_iff.1 hbx1).1 hb6.size)).trans ((hb6.block _ (Array.getElem?_eq_some_iff.1 hbx1).1).trans hbx1)
  have hbr2 := (hb7.block _ (Nat.lt_of_lt_of_le (Array.getElem?_eq_some_iff.1 hbr1).1 hb6.size)).trans ((hb6.block _ (Array.getElem?_eq_some_iff.1 hbr1).1).trans hbr1)
  refine hKK _ _ hb7 ?_
  clear hKK KK hbx1 hbr1 hbx hbr
  refine seg_last ?_
  simp only [opsAt, List.filterMap_cons, List.filterMap_nil, List.getElem?_toArray, List.getElem?_cons_succ, List.getElem?_cons_zero]
  repeat (first | go_big_quiet_step (fail) | quiet_step (fail))
  refine wpQuiet_nil ?_
  go_wp2_with fail
  have c0 := Cy.cell_blk (i := 0) hbx2 rfl
  have c1 := Cy.cell_blk (i := 1) hbx2 rfl
  have c2 := Cy.cell_blk (i := 2) hbx2 rfl
  refine goS_into ?_
  refine goS_region ?_
  show GoL _ _ _ _ _ _ [0, 1, 2, 3, 4, 5, 6] _ _
  refine goL_value rfl rfl (v := .agg #[I y.size, I y.start, .slice sy n capc]) (w' := w7) (by simp [execOp, go_sem, Act.eval, c0, c1, c2]) ?_
  refine goL_here ?_
  refine ⟨_, _ :: fs, _, rfl, .inl rfl, ?_⟩
  have hmid : ∀ p ∈ SX, p.1 ≠ V.heap.size + 1 := fun p hp e => by
    have := (Array.getElem?_eq_some_iff.1 (hSV p hp)).1
    omega
  refine call_yr (SX := (V.heap.size + 1, #[.int .i64 0, .int .i64 0], 30) :: SX) rfl rfl (by decide) rfl hY rfl (fun p hp => ?_) (fun h => List.mem_cons_of_mem _ (hfb h)) (fun p hp => ?_) ⟨rfl, rfl, rfl, by simp only [Frame.at]; decide +kernel, ⟨_, _, PA.func18, Try.func18, rfl⟩⟩ (fun f hf => ?_) ?_
  · rcases List.mem_cons.1 hp with rfl | hp
    · exact ⟨by simp, (show (30 : Nat) ≠ 60 by decide), (show (30 : Nat) ≠ 90 by decide)⟩
    · exact hX p hp
  · rcases List.mem_cons.1 hp with rfl | hp
    · exact hbr2
    · exact hSV.below hbW7.block p hp
  · rcases List.mem_cons.1 hf with rfl | hf
    · exact hT
    · exact hTs f hf
  intro V2 vd vw hsz2 hS2 hpd hpw
  have hbr3 := hS2 _ (List.mem_cons_self ..)
  have hSx : StX SX V2 := fun p hp => hS2 p (List.mem_cons_of_mem _ hp)
  simp only at hbr3
  show GoL _ _ _ _ _ _ [2, 3, 4, 5, 6] _ _
  have hl1 : (daysL 0 (runD y.size (if y.size < y.start then y.size else y.start) (lowD y))).length = n := by rw [daysL_len, runD_len]; exact hY.low.len
  have hl2 : (daysL 0 (runD y.size (if y.size < y.start then y.size else y.start) (highD y))).length = n := by rw [daysL_len, runD_len]; exact hY.high.len
  have hd1 : (daysL 0 (runD y.size (if y.size < y.start then y.size else y.start) (lowD y)))[d].lo = lo.1 := by
    have := daysL_lo (runD y.size (if y.size < y.start then y.size else y.start) (lowD y)) 0 d
    rw [show (runD y.size (if y.size < y.start then y.size else y.start) (lowD y))[d]? = some lo from hlo, List.getElem?_eq_getElem (by rw [hl1]; exact hdn)] at this
    simpa using this
  have hd2 : (daysL 0 (runD y.size (if y.size < y.start then y.size else y.start) (highD y)))[d].lo = hi.1 := by
    have := daysL_lo (runD y.size (if y.size < y.start then y.size else y.start) (highD y)) 0 d
    rw [show (runD y.size (if y.size < y.start then y.size else y.start) (highD y))[d]? = some hi from hhi, List.getElem?_eq_getElem (by rw [hl2]; exact hdn)] at this
    simpa using this
  obtain ⟨A1, k1, q1, p1, p2, p3⟩ := hpd.open_
  obtain ⟨A2, k2, q2, p4, p5, p6⟩ := hpw.open_
  obtain ⟨b1, o1, rfl, hb1, hc1⟩ := p3 (by rw [hl1]; omega)
  obtain ⟨b2, o2, rfl, hb2, hc2⟩ := p6 (by rw [hl2]; omega)
  have g1 := (hc1 d (by rw [hl1]; exact hdn)).1
  have g2 := (hc2 d (by rw [hl2]; exact hdn)).1
  rw [hd1] at g1
  rw [hd2] at g2
  rw [hl1] at q1
  rw [hl2] at q2
  subst q1 q2
  clear hpd hpw p1 p2 p3 p4 p5 p6 hc1 hc2 hd1 hd2 hl1 hl2 HV hbW hbW6
  generalize hvd : Value.slice (some ⟨b1, o1, none⟩) n k1 = vd
  generalize hvw : Value.slice (some ⟨b2, o2, none⟩) n k2 = vw
  refine goL_value rfl rfl (v := .tuple #[vd, vw]) (w' := V2) (by simp [execOp, go_sem, Act.eval]) ?_
  refine goL_value rfl rfl (v := vd) (w' := V2) (by simp [execOp, go_sem, Act.eval]) ?_
  refine goL_value rfl rfl (v := vw) (w' := V2) (by simp [execOp, go_sem, Act.eval]) ?_
  refine goL_value rfl rfl (v := vd) (w' := V2) (by simp [execOp, go_sem, Act.eval]) ?_
  refine goL_value rfl rfl (v := vw) (w' := V2) (by simp [execOp, go_sem, Act.eval]) ?_
  refine goL_end ?_
  show GoS _ _ _ [] _ _ _ _
  refine goS_last ?_
  subst hvd hvw
  go_wp2_with fail
  refine wp_region_segK [] [0, 1, 2, 3, 4, 5, 6, 7, 8, 9, 10] [11, 12] 11 (by kernel_rfl) (by kernel_rfl) ?_
  intro KQ hKQ wn hbn
  have hbr4 := (hbn.block _ (Array.getElem?_eq_some_iff.1 hbr3).1).trans hbr3
  have m1 := cell_regrown (keep_cell hbn g1)
  have m2 := cell_regrown (keep_cell hbn g2)
  refine seg_last ?_
  simp only [opsAt, List.filterMap_cons, List.filterMap_nil, List.getElem?_toArray, List.getElem?_cons_succ, List.getElem?_cons_zero]
  repeat (first | go_big_quiet_step (fail) | quiet_step (fail))
  refine wpQuiet_nil ?_
  have s0 := Cy.cell_blk (i := 0) hbr4 rfl
  have s1 := Cy.cell_blk (i := 1) hbr4 rfl
  have u0 := Cy.thaw_blk (i := 0) hbr4
  have u1 := Cy.thaw_blk (i := 1) hbr4
  have e0 : ((wn.setCell ⟨V.heap.size + 1, 0, none⟩ (I lo.1)).setCell ⟨V.heap.size + 1, 1, none⟩ (I hi.1)).cell? ⟨V.heap.size + 1, 0, none⟩ = some (I lo.1) := by
    rw [World.cell?_setCell_other _ _ _ _ (by simp)]
    exact World.cell?_setCell_same _ _ _ s0
  have e1 : ((wn.setCell ⟨V.heap.size + 1, 0, none⟩ (I lo.1)).setCell ⟨V.heap.size + 1, 1, none⟩ (I hi.1)).cell? ⟨V.heap.size + 1, 1, none⟩ = some (I hi.1) :=
    World.cell?_setCell_same _ _ _ (by rw [World.cell?_setCell_other _ _ _ _ (by simp)]; exact s1)
  go_wp2_with fail
  refine outS_back PA.func18 (v := .tuple #[.agg #[I lo.1, I hi.1], I 0]) (by simp [results, Try.results18, go_sem, e0, e1]) rfl ?_
  rw [finish_in ho]
  refine ⟨_, Steps.refl _ _, _, fs, _, rfl, .inl rfl, hnext _ ?_ fun p hp => ?_⟩
  · have := hbn.size
    have := hbW7.size
    have hss : ∀ (w : World) (p q : Addr) (u u' : Value), ((w.setCell p u).setCell q u').heap.size = w.heap.size := fun w p q u u' => by simp
    rw [hss]
    omega
  · rw [Cy.setCell_ne _ _ _ (by exact hmid p hp), Cy.setCell_ne _ _ _ (by exact hmid p hp)]
    exact (hbn.block _ (Array.getElem?_eq_some_iff.1 (hSx p hp)).1).trans (hSx p hp)
end Go.Proofs.Ytpolipcicfjkiaa
/- TopRained's code, piece by piece. Conditions: none. -/
namespace Go.Proofs.Ytpolipcicfjkiaa
open Go.RowKit
open Go.Proofs.Ytpolipcicfjkiaa.Cy (stepD runD)

noncomputable def code3 : Code := (Try.f3.body).getD .skip
noncomputable def cd3 : Nat → Code
  | 0 => code3
  | n + 1 => Cy.sqR (cd3 n)
theorem goS_step {P : Program} {S : Machine → Prop} {b : Frame} {k : List Item} {cs : List Frame} {a : Act} {w : World} (n : Nat) (hn : cd3 n = .seq (Cy.sqL (cd3 n)) (cd3 (n + 1)))
    (h : ∀ (K : Act → World → Prop) (Q : Exit → Act → World → Prop), (∀ a w, GoS P S b k cs (cd3 (n + 1)) a w → K a w) → (∀ e a w, OutS P S b k cs e a w → Q e a w) → (Cy.sqL (cd3 n)).wp P (Exit.then K Q) a w) : GoS P S b k cs (cd3 n) a w := by
  rw [hn]
  exact goS_seq2 h

/-- The rest of a region. -/
theorem goL_rest {P : Program} {S : Machine → Prop} {b : Frame} {c : Code} {k : List Item} {cs : List Frame} {a : Act} {w : World} {ops : Array Oper} {l : List Nat} (k0 : Nat) (hl : l = List.range' k0 (ops.toList.drop k0).length)
    (h : ∀ (K : Act → World → Prop) (Q : Exit → Act → World → Prop), (∀ a w, GoS P S b k cs c a w → K a w) → (∀ e a w, OutS P S b (.code c :: k) cs e a w → Q e a w) → wpList P ops (Exit.then K Q) (ops.toList.drop k0) a w) : GoL P S b (.code c :: k) cs ops l a w := by
  have h1 := h (fun a w => GoS P S b k cs c a w) (fun e a w => OutS P S b (.code c :: k) cs e a w) (fun _ _ h => h) (fun _ _ _ h => h)
  rw [← wpOps_eq_wpList (ops.toList.drop k0) k0 (fun j => by rw [List.getElem?_drop, Array.getElem?_toList]), ← hl] at h1
  obtain ⟨e, a₁, w₁, hq, harr⟩ := wp_ops _ a w h1 b (.code c :: k) cs
  cases e with
  | normal => exact Stops.of_steps harr hq
  | exit id => exact hq _ harr
  | goto l => exact hq _ harr
  | ret => exact hq _ harr
  | panic c => exact hq _ harr
  | outgrown => exact hq _ harr

/-- The end, out of a walk. -/
theorem end_here {B : Nat} {w0 : World} {Post : Value → World → Prop} {k : List Item} {a : Act} {w : World} (ha : a.defers = []) (h6 : a.tmps[6]? = some (.bool true)) (hp : ∀ w, Cy.Old B w0 w → Post (.bool true) w) : OutS PA.prog (Cy.AtOk B w0 Post) (Go.Conc.base 3) k ([] ++ [Cy.trap]) .ret a w :=
  outS_ret fun _ => ⟨_, Steps.refl _ _, _, [], _, rfl, .inr rfl, Cy.end_ok ha h6 hp⟩
theorem end_here0 {B : Nat} {w0 : World} {Post : Value → World → Prop} {c0 : Nat → Cy.Cls} {k : List Item} {a : Act} {w : World} (ha : a.defers = []) (h6 : a.tmps[6]? = some (.bool true)) (hp : ∀ w, Cy.Old B w0 w → Post (.bool true) w)
    (hb : ∀ b, b < B → w.heap[b]? = (Cy.view c0 0 w0).heap[b]?) (hB : B ≤ w.heap.size) : OutS PA.prog (Cy.AtOk0 B w0 Post c0) (Go.Conc.base 3) k ([] ++ [Cy.trap]) .ret a w :=
  outS_ret fun _ => ⟨_, Steps.refl _ _, _, [], _, rfl, .inr rfl, Cy.end_ok0 ha h6 hp hb hB⟩

/-- What is carried through the phases. -/
structure Car (B : Nat) (w0 : World) (Post : Value → World → Prop) (ya yb : CY) (sya : Option Addr) (na ca fa : Nat) (dca : Array Value) (syb : Option Addr) (nb cb fb : Nat) (dcb : Array Value) (ba bb bx : Nat) (pt lo hi day : Int) (SX : List (Nat × Array Value × TypeId)) : Prop where
  A : Yr ya (.agg #[I ya.size, I ya.start, .slice sya na ca]) sya na ca fa dca
  Bb : Yr yb (.agg #[I yb.size, I yb.start, .slice syb nb cb]) syb nb cb fb dcb
  va : yValid ya = true
  vb : yValid yb = true
  nar : Nar ya yb
  X : Cy.Rows59 SX
  fa : 0 < na → (fa, dca, 59) ∈ SX
  fb : 0 < nb → (fb, dcb, 59) ∈ SX
  ba : (ba, #[I ya.size, I ya.start, .slice sya na ca], 24) ∈ SX
  bb : (bb, #[I yb.size, I yb.start, .slice syb nb cb], 24) ∈ SX
  bx : (bx, #[I pt, I lo, I hi, I day], 32) ∈ SX
  post : ∀ w, Cy.Old B w0 w → Post (.bool true) w
theorem tam3 {a : Act} {it : Item} {n : Nat} (ha : a.defers = []) (h1 : Cy.tameItem it = true) (h2 : Cy.tameCode (cd3 n) = true) : Cy.TamF ((Go.Conc.base 3).at a (it :: [.code (cd3 n)])) :=
  ⟨rfl, rfl, ha, by
    have h3 : Cy.tameItem (.code (cd3 n)) = true := h2
    show (Cy.tameItem it && (Cy.tameItem (.code (cd3 n)) && true)) = true
    rw [h1, h3]; rfl, ⟨_, _, PA.func3, Try.func3, rfl⟩⟩
end Go.Proofs.Ytpolipcicfjkiaa
/- TopRained's last piece: from Level's second answer to the end. Conditions: as stated. -/
namespace Go.Proofs.Ytpolipcicfjkiaa
open Go.RowKit
open Go.Proofs.Ytpolipcicfjkiaa.Cy (stepD runD)

set_option maxRecDepth 100000 in
set_option maxHeartbeats 8000000 in
theorem piece_e {x0 x1 x2 x3 x4 x6 x7 x8 x9 x11 x13 x14 x15 x16 x17 x20 x21 x22 x23 x24 x25 x26 x27 x28 x29 x30 x31 x32 x33 x34 x35 x36 x37 x38 x39 x40 x41 x42 x43 x44 x45 x46 x47 x48 x49 x50 x51 x52 x53 x54 x55 x56 x57 x58 x59 x60 x61 x62 x63 x64 x65 x66 x67 x68 x69 x70 x71 x72 x73 x74 x75 x76 x77 x78 x79 x80 x81 x82 x83 x84 x85 x86 x87 x88 x89 x90 x91 x92 x93 x94 x95 x96 x97 x98 x99 x100 x101 x102 x103 x104 x105 x106 x107 x108 x109 x110 x111 x112 x113 x114 x115 x116 x117 x118 x119 x120 x121 x122 x123 x124 x125 x126 x127 x128 x129 x130 x131 x132 x133 x134 x135 x136 x137 x138 x139 x140 x141 x142 x143 x144 x145 x146 x147 x148 x149 x150 x151 x152 x153 x154 x155 x156 x157 x158 x159 x160 x161 x162 x163 x164 x165 x166 x167 x168 x169 x170 x171 x172 x173 x174 x175 x176 x177 x178 x179 x180 x181 x182 x183 x184 x185 x186 x187 x188 x189 x190 x191 x192 x193 x194 x195 x196 x197 x198 x199 x200 x201 x202 x203 x204 x205 x206 x207 x208 x209 x210 x211 x212 x213 x214 x215 x216 x217 x218 x219 x220 x221 x222 x223 x224 x225 x226 x227 x228 x229 x230 x231 x232 x233 x234 x235 x236 x237 x238 x239 x240 x241 x242 x243 x244 x245 x246 x247 x248 x249 x250 x251 x252 x253 x254 x256 x257 x258 x259 x260 x261 x262 x263 x264 x265 x266 x267 x268 x269 x270 x271 x272 x273 x274 x275 x276 x277 x278 x279 x280 x281 x282 x283 x284 x285 x286 x287 x288 x289 x290 x291 x292 x293 x294 x295 x296 : Value} {B : Nat} {w0 : World} {Post : Value → World → Prop} {ya yb : CY} {sya : Option Addr} {na ca fa : Nat} {dca : Array Value} {syb : Option Addr} {nb cb fb : Nat} {dcb : Array Value} {ba bb bx : Nat} {pt lo hi day : Int} {SX : List (Nat × Array Value × TypeId)} (C : Car B w0 Post ya yb sya na ca fa dca syb nb cb fb dcb ba bb bx pt lo hi day SX) {b18 : Nat} {al ah bl bh : Int} (h18 : (b18, #[I al, I ah], 30) ∈ SX) (o1 : al ≤ bl) (o2 : bl ≤ bh) (o3 : bh ≤ ah) (o4 : ah ≤ ya.size) {v : World} (hS : StX SX v) :
    Cy.Ok B w0 Post ((Go.Conc.base 3).at ⟨#[x0, x1, x2, x3, x4, .pointer (some ⟨bx, 0, none⟩), x6, x7, x8, x9, .pointer (some ⟨ba, 0, none⟩), x11, .pointer (some ⟨bb, 0, none⟩), x13, x14, x15, x16, x17, .pointer (some ⟨b18, 0, none⟩), I 0, x20, x21, x22, x23, x24, x25, x26, x27, x28, x29, x30, x31, x32, x33, x34, x35, x36, x37, x38, x39, x40, x41, x42, x43, x44, x45, x46, x47, x48, x49, x50, x51, x52, x53, x54, x55, x56, x57, x58, x59, x60, x61, x62, x63, x64, x65, x66, x67, x68, x69, x70, x71, x72, x73, x74, x75, x76, x77, x78, x79, x80, x81, x82, x83, x84, x85, x86, x87, x88, x89, x90, x91, x92, x93, x94, x95, x96, x97, x98, x99, x100, x101, x102, x103, x104, x105, x106, x107, x108, x109, x110, x111, x112, x113, x114, x115, x116, x117, x118, x119, x120, x121, x122, x123, x124, x125, x126, x127, x128, x129, x130, x131, x132, x133, x134, x135, x136, x137, x138, x139, x140, x141, x142, x143, x144, x145, x146, x147, x148, x149, x150, x151, x152, x153, x154, x155, x156, x157, x158, x159, x160, x161, x162, x163, x164, x165, x166, x167, x168, x169, x170, x171, x172, x173, x174, x175, x176, x177, x178, x179, x180, x181, x182, x183, x184, x185, x186, x187, x188, x189, x190, x191, x192, x193, x194, x195, x196, x197, x198, x199, x200, x201, x202, x203, x204, x205, x206, x207, x208, x209, x210, x211, x212, x213, x214, x215, x216, x217, x218, x219, x220, x221, x222, x223, x224, x225, x226, x227, x228, x229, x230, x231, x232, x233, x234, x235, x236, x237, x238, x239, x240, x241, x242, x243, x244, x245, x246, x247, x248, x249, x250, x251, x252, x253, x254, .tuple #[.agg #[I bl, I bh], I 0], x256, x257, x258, x259, x260, x261, x262, x263, x264, x265, x266, x267, x268, x269, x270, x271, x272, x273, x274, x275, x276, x277, x278, x279, x280, x281, x282, x283, x284, x285, x286, x287, x288, x289, x290, x291, x292, x293, x294, x295, x296], []⟩ (.inRegion (Cy.opsO (Cy.sqL (cd3 28))) [4, 5, 6, 7, 8, 9] :: [.code (cd3 29)])) [] v := by
  refine Cy.tree_ok (Cy.tame_of (tam3 rfl (by decide +kernel) (by decide +kernel)) fun f hf => by simp at hf) fun V hV => ?_
  have hSV := hS.heap hV
  have hsV : v.heap.size = V.heap.size := by rw [hV]
  show GoL _ _ _ [.code (cd3 29)] _ _ [4, 5, 6, 7, 8, 9] _ V
  refine goL_rest 4 rfl fun K Q hK hQ => ?_
  simp only [cd3, code3, Try.f3, Option.getD_some, Cy.sqL, Cy.sqR, Cy.opsO, List.drop_succ_cons, List.drop_zero]
  go_wp2_with fail
  have hin : inR ah al ya.size = true := by simp [inR]; omega
  have hb0 : ∀ x, Below V.heap.size V (V.alloc x) := fun x => (Below.refl _ _).alloc (Nat.le_refl _) _
  have q18 : ∀ x, (V.alloc x).heap[b18]? = some (.cells #[I al, I ah] 30) := fun x => ((hb0 x).block _ (Array.getElem?_eq_some_iff.1 (hSV _ h18)).1).trans (hSV _ h18)
  have qa : ∀ x, (V.alloc x).heap[ba]? = some (.cells #[I ya.size, I ya.start, .slice sya na ca] 24) := fun x => ((hb0 x).block _ (Array.getElem?_eq_some_iff.1 (hSV _ C.ba)).1).trans (hSV _ C.ba)
  have c0 := fun x => Cy.cell_blk (i := 0) (q18 x) rfl
  have c1 := fun x => Cy.cell_blk (i := 1) (q18 x) rfl
  have c2 := fun x => Cy.cell_blk (i := 0) (qa x) rfl
  refine goS_step 29 rfl fun K Q hK hQ => ?_
  simp only [cd3, code3, Try.f3, Option.getD_some, Cy.sqL, Cy.sqR]
  go_wp2_with (first | (go_at_call 19; refine (rWithin_any _ _ _ _).mono ?_; rintro e w1 ⟨rfl, rfl⟩; rw [hin]) | (go_at_call 8; refine (rained_any _).mono ?_; rintro e w2 ⟨rfl, hb2⟩))
  refine goS_last ?_
  show Code.wp _ .ret _ _ _
  go_wp2_with fail
  exact end_here rfl rfl C.post
end Go.Proofs.Ytpolipcicfjkiaa
/- TopRained's piece between Level's answers. Conditions: as stated. -/
namespace Go.Proofs.Ytpolipcicfjkiaa
open Go.RowKit
open Go.Proofs.Ytpolipcicfjkiaa.Cy (stepD runD)

theorem Car.cons {B : Nat} {w0 : World} {Post : Value → World → Prop} {ya yb : CY} {sya : Option Addr} {na ca fa : Nat} {dca : Array Value} {syb : Option Addr} {nb cb fb : Nat} {dcb : Array Value} {ba bb bx : Nat} {pt lo hi day : Int} {SX : List (Nat × Array Value × TypeId)} (C : Car B w0 Post ya yb sya na ca fa dca syb nb cb fb dcb ba bb bx pt lo hi day SX) {p : Nat × Array Value × TypeId} (h1 : p.2.1 ≠ #[]) (h2 : p.2.2 ≠ 60) (h3 : p.2.2 ≠ 90) : Car B w0 Post ya yb sya na ca fa dca syb nb cb fb dcb ba bb bx pt lo hi day (p :: SX) :=
  ⟨C.A, C.Bb, C.va, C.vb, C.nar, fun q hq => by
    rcases List.mem_cons.1 hq with rfl | hq
    · exact ⟨h1, h2, h3⟩
    · exact C.X q hq, fun h => List.mem_cons_of_mem _ (C.fa h), fun h => List.mem_cons_of_mem _ (C.fb h), List.mem_cons_of_mem _ C.ba, List.mem_cons_of_mem _ C.bb, List.mem_cons_of_mem _ C.bx, C.post⟩
theorem Rows59.cons {SX : List (Nat × Array Value × TypeId)} (h : Cy.Rows59 SX) {p : Nat × Array Value × TypeId} (h1 : p.2.1 ≠ #[]) (h2 : p.2.2 ≠ 60) (h3 : p.2.2 ≠ 90) : Cy.Rows59 (p :: SX) := fun q hq => by
  rcases List.mem_cons.1 hq with rfl | hq
  · exact ⟨h1, h2, h3⟩
  · exact h q hq
theorem StX.cons {SX : List (Nat × Array Value × TypeId)} {v : World} (h : StX SX v) {p : Nat × Array Value × TypeId} (hp : v.heap[p.1]? = some (.cells p.2.1 p.2.2)) : StX (p :: SX) v := fun q hq => by
  rcases List.mem_cons.1 hq with rfl | hq
  · exact hp
  · exact h q hq

set_option maxRecDepth 100000 in
set_option maxHeartbeats 8000000 in
theorem piece_d {x0 x1 x2 x3 x4 x6 x7 x8 x9 x11 x13 x14 x15 x16 x17 x18 x19 x20 x21 x22 x23 x24 x25 x26 x27 x28 x29 x30 x31 x32 x33 x34 x35 x36 x37 x38 x39 x40 x41 x42 x43 x44 x45 x46 x47 x48 x49 x50 x51 x52 x53 x54 x55 x56 x57 x58 x59 x60 x61 x62 x63 x64 x65 x66 x67 x68 x69 x70 x71 x72 x73 x74 x75 x76 x77 x78 x79 x80 x81 x82 x83 x84 x85 x86 x87 x88 x89 x90 x91 x92 x93 x94 x95 x96 x97 x98 x99 x100 x101 x102 x103 x104 x105 x106 x107 x108 x109 x110 x111 x112 x113 x114 x115 x116 x117 x118 x119 x120 x121 x122 x123 x124 x125 x126 x127 x128 x129 x130 x131 x132 x133 x134 x135 x136 x137 x138 x139 x140 x141 x142 x143 x144 x145 x146 x147 x148 x149 x150 x151 x152 x153 x154 x155 x156 x157 x158 x159 x160 x161 x162 x163 x164 x165 x166 x167 x168 x169 x170 x171 x172 x173 x174 x175 x176 x177 x178 x179 x180 x181 x182 x183 x184 x185 x186 x187 x188 x189 x190 x191 x192 x193 x194 x195 x196 x197 x198 x199 x200 x201 x202 x203 x204 x205 x206 x207 x208 x209 x210 x211 x212 x213 x214 x215 x216 x217 x218 x219 x220 x221 x222 x223 x224 x225 x226 x227 x228 x229 x230 x231 x232 x233 x234 x235 x236 x237 x238 x239 x240 x241 x242 x243 x244 x245 x246 x247 x249 x250 x251 x252 x253 x254 x255 x256 x257 x258 x259 x260 x261 x262 x263 x264 x265 x266 x267 x268 x269 x270 x271 x272 x273 x274 x275 x276 x277 x278 x279 x280 x281 x282 x283 x284 x285 x286 x287 x288 x289 x290 x291 x292 x293 x294 x295 x296 : Value} {B : Nat} {w0 : World} {Post : Value → World → Prop} {ya yb : CY} {sya : Option Addr} {na ca fa : Nat} {dca : Array Value} {syb : Option Addr} {nb cb fb : Nat} {dcb : Array Value} {ba bb bx : Nat} {pt lo hi : Int} {SX : List (Nat × Array Value × TypeId)} {d : Nat} (C : Car B w0 Post ya yb sya na ca fa dca syb nb cb fb dcb ba bb bx pt lo hi (d : Int) SX) {al ah bl bh : Int × Int × Int} (hd : d < nb) (hlo : (runD yb.size (lv0 yb) (lowD yb))[d]? = some bl) (hhi : (runD yb.size (lv0 yb) (highD yb))[d]? = some bh) (o1 : al.1 ≤ bl.1) (o2 : bl.1 ≤ bh.1) (o3 : bh.1 ≤ ah.1) (o4 : ah.1 ≤ ya.size) {v : World} (hS : StX SX v) :
    Cy.Ok B w0 Post ((Go.Conc.base 3).at ⟨#[x0, x1, x2, x3, x4, .pointer (some ⟨bx, 0, none⟩), x6, x7, x8, x9, .pointer (some ⟨ba, 0, none⟩), x11, .pointer (some ⟨bb, 0, none⟩), x13, x14, x15, x16, x17, x18, x19, x20, x21, x22, x23, x24, x25, x26, x27, x28, x29, x30, x31, x32, x33, x34, x35, x36, x37, x38, x39, x40, x41, x42, x43, x44, x45, x46, x47, x48, x49, x50, x51, x52, x53, x54, x55, x56, x57, x58, x59, x60, x61, x62, x63, x64, x65, x66, x67, x68, x69, x70, x71, x72, x73, x74, x75, x76, x77, x78, x79, x80, x81, x82, x83, x84, x85, x86, x87, x88, x89, x90, x91, x92, x93, x94, x95, x96, x97, x98, x99, x100, x101, x102, x103, x104, x105, x106, x107, x108, x109, x110, x111, x112, x113, x114, x115, x116, x117, x118, x119, x120, x121, x122, x123, x124, x125, x126, x127, x128, x129, x130, x131, x132, x133, x134, x135, x136, x137, x138, x139, x140, x141, x142, x143, x144, x145, x146, x147, x148, x149, x150, x151, x152, x153, x154, x155, x156, x157, x158, x159, x160, x161, x162, x163, x164, x165, x166, x167, x168, x169, x170, x171, x172, x173, x174, x175, x176, x177, x178, x179, x180, x181, x182, x183, x184, x185, x186, x187, x188, x189, x190, x191, x192, x193, x194, x195, x196, x197, x198, x199, x200, x201, x202, x203, x204, x205, x206, x207, x208, x209, x210, x211, x212, x213, x214, x215, x216, x217, x218, x219, x220, x221, x222, x223, x224, x225, x226, x227, x228, x229, x230, x231, x232, x233, x234, x235, x236, x237, x238, x239, x240, x241, x242, x243, x244, x245, x246, x247, .tuple #[.agg #[I al.1, I ah.1], I 0], x249, x250, x251, x252, x253, x254, x255, x256, x257, x258, x259, x260, x261, x262, x263, x264, x265, x266, x267, x268, x269, x270, x271, x272, x273, x274, x275, x276, x277, x278, x279, x280, x281, x282, x283, x284, x285, x286, x287, x288, x289, x290, x291, x292, x293, x294, x295, x296], []⟩ (.inRegion (Cy.opsO (Cy.sqL (cd3 27))) [4, 5, 6, 7, 8, 9] :: [.code (cd3 28)])) [] v := by
  refine Cy.tree_ok (Cy.tame_of (tam3 rfl (by decide +kernel) (by decide +kernel)) fun f hf => by simp at hf) fun V hV => ?_
  have hSV := hS.heap hV
  have hsV : v.heap.size = V.heap.size := by rw [hV]
  show GoL _ _ _ [.code (cd3 28)] _ _ [4, 5, 6, 7, 8, 9] _ V
  refine goL_rest 4 rfl fun K Q hK hQ => ?_
  simp only [cd3, code3, Try.f3, Option.getD_some, Cy.sqL, Cy.sqR, Cy.opsO, List.drop_succ_cons, List.drop_zero]
  go_wp2_with fail
  have hb0 : ∀ x, Below V.heap.size V (V.alloc x) := fun x => (Below.refl _ _).alloc (Nat.le_refl _) _
  have qb : ∀ x, (V.alloc x).heap[bb]? = some (.cells #[I yb.size, I yb.start, .slice syb nb cb] 24) := fun x => ((hb0 x).block _ (Array.getElem?_eq_some_iff.1 (hSV _ C.bb)).1).trans (hSV _ C.bb)
  have qx : ∀ x, (V.alloc x).heap[bx]? = some (.cells #[I pt, I lo, I hi, I d] 32) := fun x => ((hb0 x).block _ (Array.getElem?_eq_some_iff.1 (hSV _ C.bx)).1).trans (hSV _ C.bx)
  have c0 := fun x => Cy.cell_blk (i := 0) (qb x) rfl
  have c1 := fun x => Cy.cell_blk (i := 1) (qb x) rfl
  have c2 := fun x => Cy.cell_blk (i := 2) (qb x) rfl
  have c3 := fun x => Cy.cell_blk (i := 3) (qx x) rfl
  simp only [List.getElem_toArray, List.getElem_cons_zero, List.getElem_cons_succ] at c0 c1 c2 c3
  show GoS _ _ _ _ _ (.seq (.region 39 (Cy.opsO (Cy.sqL (cd3 28))) false) (cd3 29)) _ _
  refine goS_into ?_
  refine goS_region ?_
  generalize hk3 : cd3 29 = kk
  simp only [cd3, code3, Try.f3, Option.getD_some, Cy.sqL, Cy.sqR, Cy.opsO]
  show GoL _ _ _ _ _ _ [0, 1, 2, 3, 4, 5, 6, 7, 8, 9] _ _
  refine goL_value rfl rfl (v := .agg #[I yb.size, I yb.start, .slice syb nb cb]) (w' := _) (by simp [execOp, go_sem, Act.eval, c0, c1, c2]; rfl) ?_
  refine goL_value rfl rfl (v := .pointer (some ⟨bx, 3, none⟩)) (w' := _) (by simp [execOp, go_sem, Act.eval]; rfl) ?_
  refine goL_value rfl rfl (v := I d) (w' := _) (by simp [execOp, go_sem, Act.eval, c3]; rfl) ?_
  refine goL_here ⟨_, [], _, rfl, .inl rfl, ?_⟩
  subst hk3
  simp only [Act.put, List.setIfInBounds_toArray]
  refine level_ok (d := d) (lo := bl) (hi := bh) rfl rfl (by decide) rfl C.Bb rfl rfl C.vb hd hlo hhi (Rows59.cons C.X (p := (V.heap.size, #[I al.1, I ah.1], 30)) (by simp) (show (30 : Nat) ≠ 60 by decide) (show (30 : Nat) ≠ 90 by decide)) (fun h => List.mem_cons_of_mem _ (C.fb h)) (StX.cons (hSV.below (hb0 _).block) (Cy.hb_new V _).blk) (tam3 rfl (by decide +kernel) (by decide +kernel)) (fun f hf => by simp at hf) fun v' hsz hS' => ?_
  simp only [Act.put]
  exact piece_e (C.cons (p := (V.heap.size, #[I al.1, I ah.1], 30)) (by simp) (show (30 : Nat) ≠ 60 by decide) (show (30 : Nat) ≠ 90 by decide)) (List.mem_cons_self ..) o1 o2 o3 o4 hS'
end Go.Proofs.Ytpolipcicfjkiaa
/- TopRained from IsDay to Level. Conditions: as stated. -/
namespace Go.Proofs.Ytpolipcicfjkiaa
open Go.RowKit
open Go.Proofs.Ytpolipcicfjkiaa.Cy (stepD runD)

set_option maxRecDepth 100000 in
set_option maxHeartbeats 8000000 in
theorem piece_c4 {x0 x1 x2 x3 x4 x6 x7 x8 x9 x11 x13 x14 x15 x16 x17 x18 x19 x20 x21 x22 x23 x24 x25 x26 x27 x28 x29 x30 x31 x32 x33 x34 x35 x36 x37 x38 x39 x40 x41 x42 x43 x44 x45 x46 x47 x48 x49 x50 x51 x52 x53 x54 x55 x56 x57 x58 x59 x60 x61 x62 x63 x64 x65 x66 x67 x68 x69 x70 x71 x72 x73 x74 x75 x76 x77 x78 x79 x80 x81 x82 x83 x84 x85 x86 x87 x88 x89 x90 x91 x92 x93 x94 x95 x96 x97 x98 x99 x100 x101 x102 x103 x104 x105 x106 x107 x108 x109 x110 x111 x112 x113 x114 x115 x116 x117 x118 x119 x120 x121 x122 x123 x124 x125 x126 x127 x128 x129 x130 x131 x132 x133 x134 x135 x136 x137 x138 x139 x140 x141 x142 x143 x144 x145 x146 x147 x148 x149 x150 x151 x152 x153 x154 x155 x156 x157 x158 x159 x160 x161 x162 x163 x164 x165 x166 x167 x168 x169 x170 x171 x172 x173 x174 x175 x176 x177 x178 x179 x180 x181 x182 x183 x184 x185 x186 x187 x188 x189 x190 x191 x192 x193 x194 x195 x196 x197 x198 x199 x200 x201 x202 x203 x204 x205 x206 x207 x208 x209 x210 x211 x212 x213 x214 x215 x216 x217 x218 x219 x220 x221 x222 x223 x224 x225 x226 x227 x228 x229 x230 x231 x232 x233 x234 x235 x236 x237 x238 x239 x240 x241 x242 x243 x244 x245 x246 x247 x248 x249 x250 x251 x252 x253 x254 x255 x256 x257 x258 x259 x260 x261 x262 x263 x264 x265 x266 x267 x268 x269 x270 x271 x272 x273 x274 x275 x276 x277 x278 x279 x280 x281 x282 x283 x284 x285 x286 x287 x288 x289 x290 x291 x292 x293 x294 x295 x296 : Value} {B : Nat} {w0 : World} {Post : Value → World → Prop} {ya yb : CY} {sya : Option Addr} {na ca fa : Nat} {dca : Array Value} {syb : Option Addr} {nb cb fb : Nat} {dcb : Array Value} {ba bb bx : Nat} {pt lo hi day : Int} {SX : List (Nat × Array Value × TypeId)} (C : Car B w0 Post ya yb sya na ca fa dca syb nb cb fb dcb ba bb bx pt lo hi day SX) {V : World} (hS : StX SX V) : GoS PA.prog (Cy.AtOk B w0 Post) (Go.Conc.base 3) [] ([] ++ [Cy.trap]) (cd3 26) ⟨#[x0, x1, x2, x3, x4, .pointer (some ⟨bx, 0, none⟩), x6, x7, x8, x9, .pointer (some ⟨ba, 0, none⟩), x11, .pointer (some ⟨bb, 0, none⟩), x13, x14, x15, x16, x17, x18, x19, x20, x21, x22, x23, x24, x25, x26, x27, x28, x29, x30, x31, x32, x33, x34, x35, x36, x37, x38, x39, x40, x41, x42, x43, x44, x45, x46, x47, x48, x49, x50, x51, x52, x53, x54, x55, x56, x57, x58, x59, x60, x61, x62, x63, x64, x65, x66, x67, x68, x69, x70, x71, x72, x73, x74, x75, x76, x77, x78, x79, x80, x81, x82, x83, x84, x85, x86, x87, x88, x89, x90, x91, x92, x93, x94, x95, x96, x97, x98, x99, x100, x101, x102, x103, x104, x105, x106, x107, x108, x109, x110, x111, x112, x113, x114, x115, x116, x117, x118, x119, x120, x121, x122, x123, x124, x125, x126, x127, x128, x129, x130, x131, x132, x133, x134, x135, x136, x137, x138, x139, x140, x141, x142, x143, x144, x145, x146, x147, x148, x149, x150, x151, x152, x153, x154, x155, x156, x157, x158, x159, x160, x161, x162, x163, x164, x165, x166, x167, x168, x169, x170, x171, x172, x173, x174, x175, x176, x177, x178, x179, x180, x181, x182, x183, x184, x185, x186, x187, x188, x189, x190, x191, x192, x193, x194, x195, x196, x197, x198, x199, x200, x201, x202, x203, x204, x205, x206, x207, x208, x209, x210, x211, x212, x213, x214, x215, x216, x217, x218, x219, x220, x221, x222, x223, x224, x225, x226, x227, x228, x229, x230, x231, x232, x233, x234, x235, x236, x237, x238, x239, x240, x241, x242, x243, x244, x245, x246, x247, x248, x249, x250, x251, x252, x253, x254, x255, x256, x257, x258, x259, x260, x261, x262, x263, x264, x265, x266, x267, x268, x269, x270, x271, x272, x273, x274, x275, x276, x277, x278, x279, x280, x281, x282, x283, x284, x285, x286, x287, x288, x289, x290, x291, x292, x293, x294, x295, x296], []⟩ V := by
  have c0 := Cy.cell_blk (i := 0) (hS _ C.ba) rfl
  have c1 := Cy.cell_blk (i := 1) (hS _ C.ba) rfl
  have c2 := Cy.cell_blk (i := 2) (hS _ C.ba) rfl
  have d0 := Cy.cell_blk (i := 0) (hS _ C.bb) rfl
  have d1 := Cy.cell_blk (i := 1) (hS _ C.bb) rfl
  have d2 := Cy.cell_blk (i := 2) (hS _ C.bb) rfl
  simp only [List.getElem_toArray, List.getElem_cons_zero, List.getElem_cons_succ] at c0 c1 c2 d0 d1 d2
  have hya : YAt V (.agg #[I ya.size, I ya.start, .slice sya na ca]) ya := C.A.at_ V fun h => hS _ (C.fa h)
  have hyb : ∀ {V' : World}, StX SX V' → YAt V' (.agg #[I yb.size, I yb.start, .slice syb nb cb]) yb := fun {V'} hS' => C.Bb.at_ V' fun h => hS' _ (C.fb h)
  have hla : ya.days.length ≤ 366 := by rw [C.A.len]; exact C.A.low.few
  have hlb : yb.days.length ≤ 366 := by rw [C.Bb.len]; exact C.Bb.low.few
  have x3 := Cy.cell_blk (i := 3) (hS _ C.bx) rfl
  simp only [List.getElem_toArray, List.getElem_cons_zero, List.getElem_cons_succ] at x3
  cases hday : inR day 0 ((ya.days.length : Int) - 1)
  · refine goS_step 26 rfl fun K Q hK hQ => ?_
    simp only [cd3, code3, Try.f3, Option.getD_some, Cy.sqL, Cy.sqR]
    go_wp2_with (first | (go_at_call 17; refine (r10IsDay_any _ _ _ _ hya (by omega)).mono ?_; rintro e w1 ⟨rfl, hb1⟩; rw [hday]) | (go_at_call 8; refine (rained_any _).mono ?_; rintro e w2 ⟨rfl, hb2⟩))
    exact end_here rfl rfl C.post
  · have hla1 := C.A.len
    obtain ⟨d, rfl⟩ : ∃ d : Nat, day = (d : Int) := by
      simp [inR] at hday
      exact ⟨day.toNat, by omega⟩
    have hdn : d < na := by
      simp [inR] at hday
      omega
    refine goS_step 26 rfl fun K Q hK hQ => ?_
    simp only [cd3, code3, Try.f3, Option.getD_some, Cy.sqL, Cy.sqR]
    go_wp2_with (first | (go_at_call 17; refine (r10IsDay_any _ _ _ _ hya (by omega)).mono ?_; rintro e w1 ⟨rfl, hb1⟩; rw [hday]; have hS1 := hS.below hb1.block))
    have e0 := Cy.cell_blk (i := 0) (hS1 _ C.ba) rfl
    have e1 := Cy.cell_blk (i := 1) (hS1 _ C.ba) rfl
    have e2 := Cy.cell_blk (i := 2) (hS1 _ C.ba) rfl
    have e3 := Cy.cell_blk (i := 3) (hS1 _ C.bx) rfl
    simp only [List.getElem_toArray, List.getElem_cons_zero, List.getElem_cons_succ] at e0 e1 e2 e3
    show GoS _ _ _ _ _ (.seq (.region 38 (Cy.opsO (Cy.sqL (cd3 27))) false) (cd3 28)) _ _
    refine goS_into ?_
    refine goS_region ?_
    generalize hk3 : cd3 28 = kk
    simp only [cd3, code3, Try.f3, Option.getD_some, Cy.sqL, Cy.sqR, Cy.opsO]
    show GoL _ _ _ _ _ _ [0, 1, 2, 3, 4, 5, 6, 7, 8, 9] _ _
    refine goL_value rfl rfl (v := .agg #[I ya.size, I ya.start, .slice sya na ca]) (w' := _) (by simp [execOp, go_sem, Act.eval, e0, e1, e2]; rfl) ?_
    refine goL_value rfl rfl (v := .pointer (some ⟨bx, 3, none⟩)) (w' := _) (by simp [execOp, go_sem, Act.eval]; rfl) ?_
    refine goL_value rfl rfl (v := I d) (w' := _) (by simp [execOp, go_sem, Act.eval, e3]; rfl) ?_
    have hab : na = nb := by
      rw [← C.A.len, ← C.Bb.len]
      exact C.nar.2.2.1
    obtain ⟨al, hal⟩ : ∃ x, (runD ya.size (lv0 ya) (lowD ya))[d]? = some x := ⟨_, List.getElem?_eq_getElem (by rw [runD_len, C.A.low.len]; exact hdn)⟩
    obtain ⟨ah, hah⟩ : ∃ x, (runD ya.size (lv0 ya) (highD ya))[d]? = some x := ⟨_, List.getElem?_eq_getElem (by rw [runD_len, C.A.high.len]; exact hdn)⟩
    obtain ⟨bl, hbl⟩ : ∃ x, (runD yb.size (lv0 yb) (lowD yb))[d]? = some x := ⟨_, List.getElem?_eq_getElem (by rw [runD_len, C.Bb.low.len, ← hab]; exact hdn)⟩
    obtain ⟨bh, hbh⟩ : ∃ x, (runD yb.size (lv0 yb) (highD yb))[d]? = some x := ⟨_, List.getElem?_eq_getElem (by rw [runD_len, C.Bb.high.len, ← hab]; exact hdn)⟩
    obtain ⟨o1, o2, o3, -, o4⟩ := level_nar C.nar C.va d al ah bl bh hal hah hbl hbh
    refine goL_here ⟨_, [], _, rfl, .inl rfl, ?_⟩
    subst hk3
    simp only [Act.put, List.setIfInBounds_toArray]
    refine level_ok (d := d) (lo := al) (hi := ah) rfl rfl (by decide) rfl C.A rfl rfl C.va hdn hal hah C.X C.fa hS1 (tam3 rfl (by decide +kernel) (by decide +kernel)) (fun f hf => by simp at hf) fun v' hsz hS' => ?_
    simp only [Act.put]
    exact piece_d C (hab ▸ hdn) hbl hbh o1 o2 o3 o4 hS'
end Go.Proofs.Ytpolipcicfjkiaa
