/- AqueductFlow: the law walked. -/
import Derived.Test.YtbddaemekgflmaaRow
import Derived.Test.YtbddaemekgflmaaW41
import Derived.Test.YtbddaemekgflmaaW42
import Derived.Test.YtbddaemekgflmaaW27
namespace Go.Proofs.Ytbddaemekgflmaa
open Go.RowKit Go.Sort

set_option maxRecDepth 100000 in
set_option maxHeartbeats 4000000 in
theorem lawFlow_any (v : Value) (d : DLine) (p : Int) (w : World) (hv : LineAt w v d) :
    Calls Try.prog 9 #[v, I p] w fun e w' => e = .returned (.bool true) ∧ Below w.heap.size w w' := by
  have HV := Lib.hid hv
  obtain ⟨pv, ov, rfl, hp, ho⟩ := hv
  have B0 := Box2.new w pv ov 25
  have HB0 := Lib.hid (show Below w.heap.size w (w.alloc (.cells #[pv, ov] 25)) from (Below.refl _ _).alloc (Nat.le_refl _) _)
  clear hp ho
  cases h1 : farD d
  · have hl : d.pts.length ≤ 40 ∧ d.odds.length ≤ 40 := by simp [farD] at h1; omega
    have hl1 : d.odds.length ≤ 1000 := by omega
    have hl2 : d.pts.length ≤ 1000 := by omega
    obtain ⟨⟨⟨a1, b1⟩, e1⟩, hR1⟩ : ∃ r, clashR d = r := ⟨_, rfl⟩
    obtain ⟨⟨⟨a2, b2⟩, e2⟩, hR2⟩ : ∃ r, flowR d p = r := ⟨_, rfl⟩
    obtain ⟨⟨⟨a3, b3⟩, e3⟩, hR3⟩ : ∃ r, wholeR d = r := ⟨_, rfl⟩
    have HR1 := Lib.hid hR1
    have HR2 := Lib.hid hR2
    have HR3 := Lib.hid hR3
    clear hR1 hR2 hR3
    clear hl
    go_enter Try.func9, Try.ntmps9
    go_wp2_with (first | (go_at_call 27; refine (far_any _ d _ (HV.out.below HB0.out)).mono ?_; rintro e w1 ⟨rfl, hb⟩; rw [h1]; have HB1 := Lib.hid (bto HB0.out hb); have X := B0.keep hb; obtain ⟨aX, bX, cX, dX⟩ := id X; have lX := X.lt; clear hb B0) | (go_at_call 19; refine (copy_any _ d _ (HV.out.below HB1.out) hl1 hl2).mono ?_; rintro e w2 ⟨v', rfl, hown, hb⟩; have LO2 := Lib.hid hown.line; obtain ⟨pv', ov', rfl, hq1, hq2⟩ := hown; obtain ⟨Ap, cp, rfl⟩ := own_shape hq1; obtain ⟨Ao, co, rfl⟩ := own_shape hq2; have HB2 := Lib.hid (bto HB1.out hb); have X := X.keep hb; obtain ⟨aX, bX, cX, dX⟩ := id X; have lX := X.lt; clear hb hq1 hq2))
    have X := X.old (.cells #[.slice Ap d.pts.length cp, .slice Ao d.odds.length co] 25)
    have Y := Box2.new w2 (.slice Ap d.pts.length cp) (.slice Ao d.odds.length co) 25
    have k0 := cell_regrown X.c0
    have k1 := cell_regrown X.c1
    have k2 := cell_regrown Y.c0
    have k3 := cell_regrown Y.c1
    have LO2 := Lib.hid (LO2.out.below ((Below.refl _ _).alloc (Nat.le_refl _) (.cells #[.slice Ap d.pts.length cp, .slice Ao d.odds.length co] 25)))
    have HB2 := Lib.hid (HB2.out.alloc HB2.out.size (.cells #[.slice Ap d.pts.length cp, .slice Ao d.odds.length co] 25))
    have c1 := ext_call (w := (w2.alloc (.cells #[.slice Ap d.pts.length cp, .slice Ao d.odds.length co] 25))) fun W hW => check_any _ d W (LO2.out.below hW) hl1
    have c2 := ext_call (w := (w2.alloc (.cells #[.slice Ap d.pts.length cp, .slice Ao d.odds.length co] 25))) fun W hW => rCheck_any _ d W (HV.out.below (bto HB2.out hW)) hl1 hl2
    have hne : (chk d != chk d) = false := by simp
    refine wp_region_ext (by kernel_rfl) (by kernel_rfl) ?_
    repeat (first | go_big_quiet_step (first | exact c1 _ _ | exact c2 _ _) | quiet_step (first | exact c1 _ _ | exact c2 _ _))
    refine wpQuiet_nil ?_
    clear c1 c2 k0 k1 k2 k3
    intro w3 hb
    have HB3 := Lib.hid (bto HB2.out hb)
    have LO3 := Lib.hid (LO2.out.below hb)
    have X := X.keep hb
    have Y := Y.keep hb
    obtain ⟨aX, bX, cX, dX⟩ := id X
    obtain ⟨aY, bY, cY, dY⟩ := id Y
    have lX := X.lt
    have lY := Y.lt
    clear hb HB2 LO2
    go_wp2_with (first | (go_at_call 34; refine (clashE_any _ d _ LO3.out hl1 hl2).mono ?_; rintro e w4 ⟨rfl, hb⟩; rw [HR1.out]; have HB4 := Lib.hid (bto HB3.out hb); have LO4 := Lib.hid (LO3.out.below hb); have X := X.keep hb; have Y := Y.keep hb; obtain ⟨aX, bX, cX, dX⟩ := id X; have lX := X.lt; obtain ⟨aY, bY, cY, dY⟩ := id Y; have lY := Y.lt; clear hb HB3 LO3) | (go_at_call 35; refine (rClash_any _ d _ (HV.out.below (HB4.out.alloc HB4.out.size _)) hl1 hl2).mono ?_; rintro e w5 ⟨rfl, hb⟩; rw [HR1.out]; have HB5 := Lib.hid (bto (HB4.out.alloc HB4.out.size _) hb); have LO5 := Lib.hid ((LO4.out.below ((Below.refl _ _).alloc (Nat.le_refl _) _)).below hb); have X := (X.old _).keep hb; have Y := (Y.old _).keep hb; have Z1 := (Box2.new w4 (I a1) (I b1) 56).keep hb; obtain ⟨aX, bX, cX, dX⟩ := id X; have lX := X.lt; obtain ⟨aY, bY, cY, dY⟩ := id Y; have lY := Y.lt; obtain ⟨aZ1, bZ1, cZ1, dZ1⟩ := id Z1; have lZ1 := Z1.lt; clear hb HB4 LO4) | (go_at_call 36; refine (flow_any _ d _ _ (LO5.out.below ((Below.refl _ _).alloc (Nat.le_refl _) _)) hl1 hl2).mono ?_; rintro e w6 ⟨rfl, hb⟩; rw [HR2.out]; have HB6 := Lib.hid (bto (HB5.out.alloc HB5.out.size _) hb); have LO6 := Lib.hid ((LO5.out.below ((Below.refl _ _).alloc (Nat.le_refl _) _)).below hb); have X := (X.old _).keep hb; have Y := (Y.old _).keep hb; have Z1 := (Z1.old _).keep hb; have Z2 := (Box2.new w5 (I a1) (I b1) 56).keep hb; obtain ⟨aX, bX, cX, dX⟩ := id X; have lX := X.lt; obtain ⟨aY, bY, cY, dY⟩ := id Y; have lY := Y.lt; obtain ⟨aZ1, bZ1, cZ1, dZ1⟩ := id Z1; have lZ1 := Z1.lt; obtain ⟨aZ2, bZ2, cZ2, dZ2⟩ := id Z2; have lZ2 := Z2.lt; clear hb HB5 LO5) | (go_at_call 37; refine (rFlow_any _ d _ _ (HV.out.below (HB6.out.alloc HB6.out.size _)) hl1 hl2).mono ?_; rintro e w7 ⟨rfl, hb⟩; rw [HR2.out]; have HB7 := Lib.hid (bto (HB6.out.alloc HB6.out.size _) hb); have LO7 := Lib.hid ((LO6.out.below ((Below.refl _ _).alloc (Nat.le_refl _) _)).below hb); have X := (X.old _).keep hb; have Y := (Y.old _).keep hb; have Z1 := (Z1.old _).keep hb; have Z2 := (Z2.old _).keep hb; have Z3 := (Box2.new w6 (I a2) (I b2) 34).keep hb; obtain ⟨aX, bX, cX, dX⟩ := id X; have lX := X.lt; obtain ⟨aY, bY, cY, dY⟩ := id Y; have lY := Y.lt; obtain ⟨aZ1, bZ1, cZ1, dZ1⟩ := id Z1; have lZ1 := Z1.lt; obtain ⟨aZ2, bZ2, cZ2, dZ2⟩ := id Z2; have lZ2 := Z2.lt; obtain ⟨aZ3, bZ3, cZ3, dZ3⟩ := id Z3; have lZ3 := Z3.lt; clear hb HB6 LO6) | (go_at_call 38; refine (whole_any _ d _ (LO7.out.below ((Below.refl _ _).alloc (Nat.le_refl _) _)) hl1 hl2).mono ?_; rintro e w8 ⟨rfl, hb⟩; rw [HR3.out]; have HB8 := Lib.hid (bto (HB7.out.alloc HB7.out.size _) hb); have LO8 := Lib.hid ((LO7.out.below ((Below.refl _ _).alloc (Nat.le_refl _) _)).below hb); have X := (X.old _).keep hb; have Y := (Y.old _).keep hb; have Z1 := (Z1.old _).keep hb; have Z2 := (Z2.old _).keep hb; have Z3 := (Z3.old _).keep hb; have Z4 := (Box2.new w7 (I a2) (I b2) 34).keep hb; obtain ⟨aX, bX, cX, dX⟩ := id X; have lX := X.lt; obtain ⟨aY, bY, cY, dY⟩ := id Y; have lY := Y.lt; obtain ⟨aZ1, bZ1, cZ1, dZ1⟩ := id Z1; have lZ1 := Z1.lt; obtain ⟨aZ2, bZ2, cZ2, dZ2⟩ := id Z2; have lZ2 := Z2.lt; obtain ⟨aZ3, bZ3, cZ3, dZ3⟩ := id Z3; have lZ3 := Z3.lt; obtain ⟨aZ4, bZ4, cZ4, dZ4⟩ := id Z4; have lZ4 := Z4.lt; clear hb HB7 LO7) | (go_at_call 39; refine (rWhole_any _ d _ (HV.out.below (HB8.out.alloc HB8.out.size _)) hl1 hl2).mono ?_; rintro e w9 ⟨rfl, hb⟩; rw [HR3.out]; have HB9 := Lib.hid (bto (HB8.out.alloc HB8.out.size _) hb); have LO9 := Lib.hid ((LO8.out.below ((Below.refl _ _).alloc (Nat.le_refl _) _)).below hb); have X := (X.old _).keep hb; have Y := (Y.old _).keep hb; have Z1 := (Z1.old _).keep hb; have Z2 := (Z2.old _).keep hb; have Z3 := (Z3.old _).keep hb; have Z4 := (Z4.old _).keep hb; have Z5 := (Box2.new w8 (I a3) (I b3) 34).keep hb; obtain ⟨aX, bX, cX, dX⟩ := id X; have lX := X.lt; obtain ⟨aY, bY, cY, dY⟩ := id Y; have lY := Y.lt; obtain ⟨aZ1, bZ1, cZ1, dZ1⟩ := id Z1; have lZ1 := Z1.lt; obtain ⟨aZ2, bZ2, cZ2, dZ2⟩ := id Z2; have lZ2 := Z2.lt; obtain ⟨aZ3, bZ3, cZ3, dZ3⟩ := id Z3; have lZ3 := Z3.lt; obtain ⟨aZ4, bZ4, cZ4, dZ4⟩ := id Z4; have lZ4 := Z4.lt; obtain ⟨aZ5, bZ5, cZ5, dZ5⟩ := id Z5; have lZ5 := Z5.lt; clear hb HB8 LO8) | (go_at_call 31; refine (sameLine_any _ _ d _ (LO9.out.below ((Below.refl _ _).alloc (Nat.le_refl _) _)) (HV.out.below (HB9.out.alloc HB9.out.size _)) hl1 hl2).mono ?_; rintro e w10 ⟨rfl, hb⟩; have HB10 := Lib.hid (bto (HB9.out.alloc HB9.out.size _) hb); clear hb) | (go_at_call 18; refine (works_any _).mono ?_; rintro e w11 ⟨rfl, hb⟩; have HB11 := Lib.hid (bto HB10.out hb); clear hb))
    go_ret
    exact ⟨rfl, HB11.out⟩
  · go_enter Try.func9, Try.ntmps9
    go_wp2_with (first | (go_at_call 27; refine (far_any _ d _ (HV.out.below HB0.out)).mono ?_; rintro e w1 ⟨rfl, hb⟩; rw [h1]; have HB1 := Lib.hid (bto HB0.out hb); clear hb) | (go_at_call 18; refine (works_any _).mono ?_; rintro e w2 ⟨rfl, hb⟩; have HB2 := Lib.hid (bto HB1.out hb); clear hb))
    go_ret
    exact ⟨rfl, HB2.out⟩
end Go.Proofs.Ytbddaemekgflmaa
