/- Walks of Loss, Whole, Free. -/
import Derived.Test.YtbddaemekgflmaaW13
import Derived.Test.YtbddaemekgflmaaW14
namespace Go.Proofs.Ytbddaemekgflmaa
open Go.RowKit Go.Sort

def lossR (d : DLine) (p : Int) : (Int × Int) × Int := if (flowsR d (isSt d p)).2 = 0 then (lostF (flowsL d) p.toNat (p.toNat + 1), 0) else ((0, 0), (flowsR d (isSt d p)).2)
def wholeR (d : DLine) : (Int × Int) × Int := if (flowsR d true).2 = 0 then (lostF (flowsL d) 0 d.odds.length, 0) else ((0, 0), (flowsR d true).2)
/-- A line one of whose points costs so much. -/
def setCost (d : DLine) (p : Nat) (c : Int) : DLine := { d with pts := d.pts.modify p fun x => { x with cost := c } }
def freeR (d : DLine) (p : Int) : Int × Int := if askE d (isPt d p) = 0 then (if d.odds.length = 0 then (0, 3) else (worstN d 0 d.odds.length - worstN (setCost d p.toNat 0) 0 d.odds.length, 0)) else (0, askE d (isPt d p))

set_option maxRecDepth 20000 in
set_option maxHeartbeats 2000000 in
theorem loss_any (v : Value) (d : DLine) (p : Int) (w : World) (hv : LineAt w v d) (hlen : d.odds.length ≤ 1000) (hlen' : d.pts.length ≤ 1000) :
    Calls Try.prog 49 #[v, I p] w fun e w' => e = .returned (.tuple #[.agg #[I (lossR d p).1.1, I (lossR d p).1.2], I (lossR d p).2]) ∧ Below w.heap.size w w' := by
  have HV := Lib.hid hv
  obtain ⟨pv, ov, rfl, hp, ho⟩ := hv
  have hb0 : ∀ x y, Below w.heap.size w ((w.alloc x).alloc y) := fun x y => ((Below.refl _ _).alloc (Nat.le_refl _) _).alloc (by simp) _
  clear hp ho
  have B0 := (Box2.new w pv ov 25).old (.cells #[I 0, I 0] 34)
  have B1 := (Box2.new (w.alloc (.cells #[pv, ov] 25)) (I 0) (I 0) 34).at_ (show _ = w.heap.size + 1 by simp)
  go_enter Try.func49, Try.ntmps49
  go_wp2_with fail
  refine wp_region_seg [([0, 1, 2], 3), ([], 4)] [5, 6, 7, 8] [9] 9 (by kernel_rfl) (by kernel_rfl) ?_
  intro KQ hKQ w1 hb1
  have B0 := B0.keep hb1
  have B1 := B1.keep hb1
  have k0 := cell_regrown B0.c0
  have k1 := cell_regrown B0.c1
  refine seg_next ?_
  simp only [opsAt, List.filterMap_cons, List.filterMap_nil, List.getElem?_toArray, List.getElem?_cons_succ, List.getElem?_cons_zero]
  repeat (first | go_big_quiet_step (fail) | quiet_step (fail))
  refine wpQuiet_nil ?_
  intro K hK
  refine loud_op rfl rfl ?_
  go_simp
  refine (isSt_any _ d _ _ (HV.out.below (bto (hb0 _ _) hb1)) hlen).mono ?_
  rintro e w2 ⟨rfl, hb2⟩
  refine hK _ _ hb2 ?_
  clear hK K k0 k1
  refine seg_next ?_
  simp only [opsAt, List.filterMap_nil]
  refine wpQuiet_nil ?_
  intro K hK
  refine loud_op rfl rfl ?_
  go_simp
  refine (flows_any _ d _ _ (HV.out.below (bto (hb0 _ _) (bto hb1 hb2))) hlen hlen').mono ?_
  rintro e w3 ⟨sv, rfl, hsp, hb3⟩
  refine hK _ _ hb3 ?_
  clear hK K
  refine seg_last ?_
  simp only [opsAt, List.filterMap_cons, List.filterMap_nil, List.getElem?_toArray, List.getElem?_cons_succ, List.getElem?_cons_zero]
  repeat (first | go_big_quiet_step (fail) | quiet_step (fail))
  refine wpQuiet_nil ?_
  obtain ⟨x0, x1, x2, x3⟩ := (B1.keep hb2).keep hb3
  obtain ⟨r1, r2⟩ := res2 x0 x1
  have HW := Lib.hid (bto (hb0 (.cells #[pv, ov] 25) (.cells #[I 0, I 0] 34)) (bto hb1 (bto hb2 hb3)))
  clear hb1 hb2 hb3 B0 B1
  by_cases h0 : (flowsR d (isSt d p)).2 = 0
  · obtain ⟨hvd, hpt, hfl, _⟩ := flowsR_bd h0
    obtain ⟨hp0, hp1⟩ := isSt_spec hpt
    have hR : lossR d p = (lostF (flowsL d) p.toNat (p.toNat + 1), 0) := by unfold lossR; rw [if_pos h0]
    have HR := Lib.hid hR
    obtain ⟨_, hvl, _⟩ := valid_spec hvd
    rw [hfl] at hsp
    obtain ⟨p, rfl⟩ := Int.eq_ofNat_of_zero_le hp0
    have hpl : (flowsL d).length = d.pts.length := by simp [flowsL]
    have HSP := Lib.hid hsp
    have HBD := Lib.hid (flowsL_bd hvd)
    have hx0 : (0 : Int) ≤ (p : Int) + 1 := by omega
    have hx1 : ((p : Int) + 1) < ((flowsL d).length : Int) := by omega
    have hx2 : (p : Int) < ((flowsL d).length : Int) := by omega
    have hx3 : ((p : Int) + 1).toNat = p + 1 := by omega
    have HX := Lib.hid (And.intro hx0 (And.intro hx1 (And.intro hx2 hx3)))
    have B1 := Box2.mk x0 x1 x2 x3
    clear hx0 hx1 hx2 hx3 hfl hpt hR hsp hpl
    go_wp2_with (go_at_call 78; refine (lost_any _ (flowsL d) _ _ _ HSP.out hp0 HX.out.1 HX.out.2.2.1 HX.out.2.1 HBD.out).mono ?_; rintro e w4 ⟨rfl, hb4⟩; have B2 := B1.keep hb4; obtain ⟨z0, z1, z2, z3⟩ := B2; obtain ⟨s1, s2⟩ := res2 z0 z1; have HB4 := Lib.hid hb4; clear hb4; rw [HX.out.2.2.2, Int.toNat_natCast])
    refine bodyPost_ret (v := .tuple #[.agg #[I (lostF (flowsL d) p (p + 1)).1, I (lostF (flowsL d) p (p + 1)).2], I 0]) (by simp [results, Try.results49, go_sem, s1, s2]) rfl ⟨by rw [HR.out]; simp only [Int.toNat_natCast], ?_⟩
    exact ((bto HW.out HB4.out).setCell (p := ⟨w.heap.size + 1, 0, none⟩) (by simp) _).setCell (p := ⟨w.heap.size + 1, 1, none⟩) (by simp) _
  · have hR : lossR d p = ((0, 0), (flowsR d (isSt d p)).2) := by unfold lossR; rw [if_neg h0]
    have HR := Lib.hid hR
    have h0' : ((flowsR d (isSt d p)).2 != 0) = true := by simpa using h0
    clear hR h0 hsp
    go_wp2_with fail
    refine bodyPost_ret (v := .tuple #[.agg #[I 0, I 0], I (flowsR d (isSt d p)).2]) (by simp [results, Try.results49, go_sem, r1, r2]) rfl ⟨by rw [HR.out], ?_⟩
    exact (HW.out.setCell (p := ⟨w.heap.size + 1, 0, none⟩) (by simp) _).setCell (p := ⟨w.heap.size + 1, 1, none⟩) (by simp) _

set_option maxRecDepth 20000 in
set_option maxHeartbeats 2000000 in
theorem whole_any (v : Value) (d : DLine) (w : World) (hv : LineAt w v d) (hlen : d.odds.length ≤ 1000) (hlen' : d.pts.length ≤ 1000) :
    Calls Try.prog 38 #[v] w fun e w' => e = .returned (.tuple #[.agg #[I (wholeR d).1.1, I (wholeR d).1.2], I (wholeR d).2]) ∧ Below w.heap.size w w' := by
  have HV := Lib.hid hv
  obtain ⟨pv, ov, rfl, hp, ho⟩ := hv
  obtain ⟨A, c, rfl, hac, hcm, _⟩ := ho.open_
  have hb0 : ∀ x y, Below w.heap.size w ((w.alloc x).alloc y) := fun x y => ((Below.refl _ _).alloc (Nat.le_refl _) _).alloc (by simp) _
  clear hp ho
  have B0 := (Box2.new w pv (.slice A d.odds.length c) 25).old (.cells #[I 0, I 0] 34)
  have B1 := (Box2.new (w.alloc (.cells #[pv, .slice A d.odds.length c] 25)) (I 0) (I 0) 34).at_ (show _ = w.heap.size + 1 by simp)
  by_cases h0 : (flowsR d true).2 = 0
  · obtain ⟨hvd, _, hfl, _⟩ := flowsR_bd h0
    have hR : wholeR d = (lostF (flowsL d) 0 d.odds.length, 0) := by unfold wholeR; rw [if_pos h0]
    have HR := Lib.hid hR
    obtain ⟨hv7, hvl, _⟩ := valid_spec hvd
    have hpl : (flowsL d).length = d.pts.length := by simp [flowsL]
    have HBD := Lib.hid (flowsL_bd hvd)
    have hx1 : (d.odds.length : Int) < ((flowsL d).length : Int) := by omega
    have hx2 : (0 : Int) < ((flowsL d).length : Int) := by omega
    have HX := Lib.hid (And.intro (Int.le_refl 0) (And.intro (Int.natCast_nonneg d.odds.length) (And.intro hx2 hx1)))
    have HE := Lib.hid hfl
    clear hx1 hx2 hfl hR hpl
    go_enter Try.func38, Try.ntmps38
    go_wp2_with (first | (go_at_call 75; refine (flows_any _ d _ _ (HV.out.below (hb0 _ _)) hlen hlen').mono ?_; rintro e w3 ⟨sv, rfl, hsp, hb3⟩; rw [HE.out] at hsp; have B2 := B0.keep hb3; have B3 := B1.keep hb3; obtain ⟨y0, y1, y2, y3⟩ := B2; obtain ⟨x0, x1, x2, x3⟩ := B3; have HSP := Lib.hid hsp; have HB3 := Lib.hid hb3; clear hsp hb3) | (go_at_call 78; refine (lost_any _ (flowsL d) _ _ _ HSP.out HX.out.1 HX.out.2.1 HX.out.2.2.1 HX.out.2.2.2 HBD.out).mono ?_; rintro e w4 ⟨rfl, hb4⟩; have B4 := (Box2.mk x0 x1 x2 x3).keep hb4; obtain ⟨z0, z1, z2, z3⟩ := B4; obtain ⟨s1, s2⟩ := res2 z0 z1; have HB4 := Lib.hid hb4; clear hb4; rw [Int.toNat_natCast, Int.toNat_zero]))
    refine bodyPost_ret (v := .tuple #[.agg #[I (lostF (flowsL d) 0 d.odds.length).1, I (lostF (flowsL d) 0 d.odds.length).2], I 0]) (by simp [results, Try.results38, go_sem, s1, s2]) rfl ⟨by rw [HR.out], ?_⟩
    exact ((bto (hb0 _ _) (bto HB3.out HB4.out)).setCell (p := ⟨w.heap.size + 1, 0, none⟩) (by simp) _).setCell (p := ⟨w.heap.size + 1, 1, none⟩) (by simp) _
  · have hR : wholeR d = ((0, 0), (flowsR d true).2) := by unfold wholeR; rw [if_neg h0]
    have HR := Lib.hid hR
    have h0' : ((flowsR d true).2 != 0) = true := by simpa using h0
    clear hR h0
    go_enter Try.func38, Try.ntmps38
    go_wp2_with (go_at_call 75; refine (flows_any _ d _ _ (HV.out.below (hb0 _ _)) hlen hlen').mono ?_; rintro e w3 ⟨sv, rfl, hsp, hb3⟩; have B3 := B1.keep hb3; obtain ⟨x0, x1, x2, x3⟩ := B3; obtain ⟨s1, s2⟩ := res2 x0 x1; have HB3 := Lib.hid hb3; clear hsp hb3)
    refine bodyPost_ret (v := .tuple #[.agg #[I 0, I 0], I (flowsR d true).2]) (by simp [results, Try.results38, go_sem, s1, s2]) rfl ⟨by rw [HR.out], ?_⟩
    exact ((bto (hb0 _ _) HB3.out).setCell (p := ⟨w.heap.size + 1, 0, none⟩) (by simp) _).setCell (p := ⟨w.heap.size + 1, 1, none⟩) (by simp) _
end Go.Proofs.Ytbddaemekgflmaa
