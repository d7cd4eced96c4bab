/- AqueductLoss: the law walked. -/
import Derived.Test.YtbddaemekgflmaaRow
import Derived.Test.YtbddaemekgflmaaW41
import Derived.Test.YtbddaemekgflmaaW27
namespace Go.Proofs.Ytbddaemekgflmaa
open Go.RowKit Go.Sort

set_option maxRecDepth 100000 in
set_option maxHeartbeats 4000000 in
theorem lawLoss_any (v : Value) (d : DLine) (p : Int) (w : World) (hv : LineAt w v d) :
    Calls Try.prog 12 #[v, I p] w fun e w' => e = .returned (.bool true) ∧ Below w.heap.size w w' := by
  have HV := Lib.hid hv
  obtain ⟨pv, ov, rfl, hp, ho⟩ := hv
  have B0 := Box2.new w pv ov 25
  have HB0 := Lib.hid (show Below w.heap.size w (w.alloc (.cells #[pv, ov] 25)) from (Below.refl _ _).alloc (Nat.le_refl _) _)
  clear hp ho
  cases h1 : farD d
  · have hl : d.pts.length ≤ 40 ∧ d.odds.length ≤ 40 := by simp [farD] at h1; omega
    have hl1 : d.odds.length ≤ 1000 := by omega
    have hl2 : d.pts.length ≤ 1000 := by omega
    obtain ⟨⟨⟨a1, b1⟩, e1⟩, hR1⟩ : ∃ r, lossR d p = r := ⟨_, rfl⟩
    obtain ⟨⟨a2, e2⟩, hR2⟩ : ∃ r, lossyR d p = r := ⟨_, rfl⟩
    have HR1 := Lib.hid hR1
    have HR2 := Lib.hid hR2
    clear hR1 hR2
    clear hl
    go_enter Try.func12, Try.ntmps12
    go_wp2_with (first | (go_at_call 27; refine (far_any _ d _ (HV.out.below HB0.out)).mono ?_; rintro e w1 ⟨rfl, hb⟩; rw [h1]; have HB1 := Lib.hid (bto HB0.out hb); have X := B0.keep hb; obtain ⟨aX, bX, cX, dX⟩ := id X; have lX := X.lt; clear hb B0) | (go_at_call 19; refine (copy_any _ d _ (HV.out.below HB1.out) hl1 hl2).mono ?_; rintro e w2 ⟨v', rfl, hown, hb⟩; have LO2 := Lib.hid hown.line; obtain ⟨pv', ov', rfl, hq1, hq2⟩ := hown; obtain ⟨Ap, cp, rfl⟩ := own_shape hq1; obtain ⟨Ao, co, rfl⟩ := own_shape hq2; have HB2 := Lib.hid (bto HB1.out hb); have X := X.keep hb; obtain ⟨aX, bX, cX, dX⟩ := id X; have lX := X.lt; clear hb hq1 hq2) | (go_at_call 49; refine (loss_any _ d _ _ (LO2.out.below ((Below.refl _ _).alloc (Nat.le_refl _) _)) hl1 hl2).mono ?_; rintro e w3 ⟨rfl, hb⟩; rw [HR1.out]; have HB3 := Lib.hid (bto (HB2.out.alloc HB2.out.size _) hb); have LO3 := Lib.hid ((LO2.out.below ((Below.refl _ _).alloc (Nat.le_refl _) _)).below hb); have X := (X.old _).keep hb; have Z1 := (Box2.new w2 (.slice Ap d.pts.length cp) (.slice Ao d.odds.length co) 25).keep hb; obtain ⟨aX, bX, cX, dX⟩ := id X; have lX := X.lt; obtain ⟨aZ1, bZ1, cZ1, dZ1⟩ := id Z1; have lZ1 := Z1.lt; clear hb HB2 LO2) | (go_at_call 51; refine (rLoss_any _ d _ _ (HV.out.below (HB3.out.alloc HB3.out.size _)) hl1 hl2).mono ?_; rintro e w4 ⟨rfl, hb⟩; rw [HR1.out]; have HB4 := Lib.hid (bto (HB3.out.alloc HB3.out.size _) hb); have LO4 := Lib.hid ((LO3.out.below ((Below.refl _ _).alloc (Nat.le_refl _) _)).below hb); have X := (X.old _).keep hb; have Z1 := (Z1.old _).keep hb; have Z2 := (Box2.new w3 (I a1) (I b1) 34).keep hb; obtain ⟨aX, bX, cX, dX⟩ := id X; have lX := X.lt; obtain ⟨aZ1, bZ1, cZ1, dZ1⟩ := id Z1; have lZ1 := Z1.lt; obtain ⟨aZ2, bZ2, cZ2, dZ2⟩ := id Z2; have lZ2 := Z2.lt; clear hb HB3 LO3) | (go_at_call 50; refine (lossy_any _ d _ _ (LO4.out.below ((Below.refl _ _).alloc (Nat.le_refl _) _)) hl1 hl2).mono ?_; rintro e w5 ⟨rfl, hb⟩; rw [HR2.out]; have HB5 := Lib.hid (bto (HB4.out.alloc HB4.out.size _) hb); have LO5 := Lib.hid ((LO4.out.below ((Below.refl _ _).alloc (Nat.le_refl _) _)).below hb); have X := (X.old _).keep hb; have Z1 := (Z1.old _).keep hb; have Z2 := (Z2.old _).keep hb; have Z3 := (Box2.new w4 (I a1) (I b1) 34).keep hb; obtain ⟨aX, bX, cX, dX⟩ := id X; have lX := X.lt; obtain ⟨aZ1, bZ1, cZ1, dZ1⟩ := id Z1; have lZ1 := Z1.lt; obtain ⟨aZ2, bZ2, cZ2, dZ2⟩ := id Z2; have lZ2 := Z2.lt; obtain ⟨aZ3, bZ3, cZ3, dZ3⟩ := id Z3; have lZ3 := Z3.lt; clear hb HB4 LO4) | (go_at_call 52; refine (rLossy_any _ d _ _ (HV.out.below HB5.out) hl1 hl2).mono ?_; rintro e w6 ⟨rfl, hb⟩; rw [HR2.out]; have HB6 := Lib.hid (bto HB5.out hb); have LO6 := Lib.hid (LO5.out.below hb); have X := X.keep hb; have Z1 := Z1.keep hb; have Z2 := Z2.keep hb; have Z3 := Z3.keep hb; obtain ⟨aX, bX, cX, dX⟩ := id X; have lX := X.lt; obtain ⟨aZ1, bZ1, cZ1, dZ1⟩ := id Z1; have lZ1 := Z1.lt; obtain ⟨aZ2, bZ2, cZ2, dZ2⟩ := id Z2; have lZ2 := Z2.lt; obtain ⟨aZ3, bZ3, cZ3, dZ3⟩ := id Z3; have lZ3 := Z3.lt; clear hb HB5 LO5) | (go_at_call 31; refine (sameLine_any _ _ d _ LO6.out (HV.out.below HB6.out) hl1 hl2).mono ?_; rintro e w7 ⟨rfl, hb⟩; have HB7 := Lib.hid (bto HB6.out hb); clear hb) | (go_at_call 18; refine (works_any _).mono ?_; rintro e w8 ⟨rfl, hb⟩; have HB8 := Lib.hid (bto HB7.out hb); clear hb))
    go_ret
    exact ⟨rfl, HB8.out⟩
  · go_enter Try.func12, Try.ntmps12
    go_wp2_with (first | (go_at_call 27; refine (far_any _ d _ (HV.out.below HB0.out)).mono ?_; rintro e w1 ⟨rfl, hb⟩; rw [h1]; have HB1 := Lib.hid (bto HB0.out hb); clear hb) | (go_at_call 18; refine (works_any _).mono ?_; rintro e w2 ⟨rfl, hb⟩; have HB2 := Lib.hid (bto HB1.out hb); clear hb))
    go_ret
    exact ⟨rfl, HB2.out⟩
end Go.Proofs.Ytbddaemekgflmaa
