/- AqueductEach: the law walked, where there is none. -/
import Derived.Test.YtbddaemekgflmaaRow
import Derived.Test.YtbddaemekgflmaaW45
import Derived.Test.YtbddaemekgflmaaW35
import Derived.Test.YtbddaemekgflmaaW46
namespace Go.Proofs.Ytbddaemekgflmaa
open Go.RowKit Go.Sort

set_option maxRecDepth 100000 in
set_option maxHeartbeats 8000000 in
theorem each_wild (d : DLine) (Ap : Option Addr) (cp : Nat) (Ao : Option Addr) (co : Nat) (Al : Option Addr) (cl : Nat) (l : List Int) (w : World) (HV : Hid (LineAt w (.agg #[.slice Ap d.pts.length cp, .slice Ao d.odds.length co]) d)) (HLI : Hid (Ints w (.slice Al l.length cl) l)) (HP : Hid (Pts w (.slice Ap d.pts.length cp) d.pts)) (HVD : Hid (valid d = true)) (h40 : ¬ 40 < l.length) (hcm : ¬ calm d.pts) :
    Calls Try.prog 14 #[.agg #[.slice Ap d.pts.length cp, .slice Ao d.odds.length co], .slice Al l.length cl] w fun e w' => e = .returned (.bool true) ∧ Below w.heap.size w w' := by
  have H1 := HVD
  have X := Box2.new w (.slice Ap d.pts.length cp) (.slice Ao d.odds.length co) 25
  have HB0 := Lib.hid (show Below w.heap.size w (w.alloc (.cells #[.slice Ap d.pts.length cp, .slice Ao d.odds.length co] 25)) from (Below.refl _ _).alloc (Nat.le_refl _) _)
  obtain ⟨hn7, hnp, -⟩ := valid_spec HVD.out
  have HL1 := Lib.hid (show d.odds.length ≤ 1000 by omega)
  have HL2 := Lib.hid (show d.pts.length ≤ 1000 by omega)
  have HPOS := Lib.hid (show 0 < d.pts.length by omega)
  have HNP := Lib.hid hnp
  have HL3 := Lib.hid (show l.length ≤ 1000 by omega)
  clear hnp hn7
  obtain ⟨pb, po, rfl, -⟩ := HP.out.some_ HPOS.out
  obtain ⟨a, b, hab, h1, h2, h3⟩ := clashR_wild HVD.out hcm
  have hT := wild_no hcm l
  have HRC := Lib.hid hab
  have HRW := Lib.hid (wholeR_none HVD.out hcm)
  have HT := Lib.hid hT
  have ha : a < d.pts.length := by omega
  rw [getD_pt a ha, getD_pt b h2] at h3
  have HPA := Lib.hid (show isPt d a = true by simp [isPt, inR]; omega)
  have HPB := Lib.hid (show isPt d b = true by simp [isPt, inR]; omega)
  obtain ⟨pa, hpa⟩ : ∃ p, d.pts[a] = p := ⟨_, rfl⟩
  obtain ⟨pc, hpc⟩ : ∃ p, d.pts[b] = p := ⟨_, rfl⟩
  rw [hpa, hpc] at h3
  have y0 := (HP.out.at_ a ha).2.1
  have y1 := (HP.out.at_ b h2).1
  rw [hpa] at y0
  rw [hpc] at y1
  have hai : (a : Int) < (d.pts.length : Int) := by omega
  have hbi : (b : Int) < (d.pts.length : Int) := by omega
  have habi : (a : Int) < (b : Int) := by omega
  clear hcm hab hT hpa hpc
  go_enter Try.func14, Try.ntmps14
  go_wp2_with fail
  go_at_call 15
  refine (ready_any _ d _ (HV.out.below HB0.out)).mono ?_
  rintro e w1 ⟨rfl, hb⟩
  rw [H1.out]
  have HB1 := Lib.hid (bto HB0.out hb)
  replace X := X.keep hb
  try clear aX bX cX dX lX
  obtain ⟨aX, bX, cX, dX⟩ := id X
  have lX := X.lt
  clear hb HB0
  go_wp2_with fail
  go_at_call 34
  refine (clashE_any _ d _ (HV.out.below HB1.out) HL1.out HL2.out).mono ?_
  rintro e w2 ⟨rfl, hb⟩
  rw [HRC.out]
  have HB2 := Lib.hid (bto HB1.out hb)
  replace X := X.keep hb
  try clear aX bX cX dX lX
  obtain ⟨aX, bX, cX, dX⟩ := id X
  have lX := X.lt
  clear hb HB1
  go_wp2_with fail
  go_at_call 38
  refine (whole_any _ d _ (HV.out.below (HB2.out.alloc HB2.out.size _)) HL1.out HL2.out).mono ?_
  rintro e w3 ⟨rfl, hb⟩
  rw [HRW.out]
  have HB3 := Lib.hid (bto (HB2.out.alloc HB2.out.size _) hb)
  replace X := (X.old _).keep hb
  try clear aX bX cX dX lX
  obtain ⟨aX, bX, cX, dX⟩ := id X
  have lX := X.lt
  have HXA := Lib.hid lX
  have Pb := (Box2.new w2 (I (a : Int)) (I (b : Int)) 56).keep hb
  obtain ⟨aPb, bPb, cPb, dPb⟩ := id Pb
  have lPb := Pb.lt
  clear hb HB2
  go_wp2_with fail
  have W3 := HB3.out.alloc HB3.out.size (.cells #[I 0, I 0] 34)
  replace X := X.old (.cells #[I 0, I 0] 34)
  have Pb := Pb.old (.cells #[I 0, I 0] 34)
  have k0 := cell_regrown X.c0
  have k1 := cell_regrown X.c1
  have k2 := cell_regrown Pb.c0
  have k3 := cell_regrown Pb.c1
  have k4 := cell_regrown (keep_cell W3 y0)
  have k5 := cell_regrown (keep_cell W3 y1)
  have c1 := ext_call (w := w3.alloc (.cells #[I 0, I 0] 34)) fun W hW => rIsPt_any _ d a W (HV.out.below (bto W3 hW)) HL2.out
  have c2 := ext_call (w := w3.alloc (.cells #[I 0, I 0] 34)) fun W hW => rIsPt_any _ d b W (HV.out.below (bto W3 hW)) HL2.out
  have c3 := ext_call (w := w3.alloc (.cells #[I 0, I 0] 34)) fun W hW => isTruth_any _ _ d l W (HV.out.below (bto W3 hW)) (HLI.out.below (bto W3 hW)) HL2.out HL3.out
  have c4 := ext_call (w := w3.alloc (.cells #[I 0, I 0] 34)) fun W hW => works_any W
  rw [HPA.out] at c1
  rw [HPB.out] at c2
  rw [HT.out] at c3
  have HW3 := Lib.hid W3
  clear W3
  go_wp2_with fail
  refine wp_region_ext (by kernel_rfl) (by kernel_rfl) ?_
  try simp only [List.append]
  repeat (first | go_big_quiet_step (first | (with_reducible exact c1 _ _) | (with_reducible exact c2 _ _) | (with_reducible exact c3 _ _) | (with_reducible exact c4 _ _)) | quiet_step (first | (with_reducible exact c1 _ _) | (with_reducible exact c2 _ _) | (with_reducible exact c3 _ _) | (with_reducible exact c4 _ _)))
  refine wpQuiet_nil ?_
  clear k0 k1 k2 k3 k4 k5 c1 c2 c3 c4
  intro w8 hb
  have HBE := Lib.hid (bto HW3.out hb)
  clear hb
  go_wp2_with fail
  go_ret
  exact ⟨rfl, HBE.out⟩
end Go.Proofs.Ytbddaemekgflmaa
