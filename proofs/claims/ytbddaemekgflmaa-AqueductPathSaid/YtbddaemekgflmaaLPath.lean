/- AqueductPath: the law walked. -/
import Derived.Test.YtbddaemekgflmaaRow
import Derived.Test.YtbddaemekgflmaaW27
import Derived.Test.YtbddaemekgflmaaW28
import Derived.Test.YtbddaemekgflmaaW31
namespace Go.Proofs.Ytbddaemekgflmaa
open Go.RowKit Go.Sort

set_option maxRecDepth 100000 in
set_option maxHeartbeats 4000000 in
theorem lawPath_any (v : Value) (d : DLine) (f t : Int) (w : World) (hv : LineAt w v d) :
    Calls Try.prog 10 #[v, I f, I t] w fun e w' => e = .returned (.bool true) ∧ Below w.heap.size w w' := by
  have HV := Lib.hid hv
  obtain ⟨pv, ov, rfl, hp, ho⟩ := hv
  have B0 := Box2.new w pv ov 25
  have HB0 := Lib.hid (show Below w.heap.size w (w.alloc (.cells #[pv, ov] 25)) from (Below.refl _ _).alloc (Nat.le_refl _) _)
  clear hp ho
  cases h1 : farD d
  · have hl : d.pts.length ≤ 40 ∧ d.odds.length ≤ 40 := by simp [farD] at h1; omega
    have hl1 : d.odds.length ≤ 1000 := by omega
    have hl2 : d.pts.length ≤ 1000 := by omega
    have hL : (pathR d f).1.length ≤ 1000 := by
      by_cases h0 : (pathR d f).2 = 0
      · have := (pathR_ok h0).2.2.2; omega
      · have e : (pathR d f).1 = [] := by
          unfold pathR at h0 ⊢
          by_cases h2 : askE d (isSt d f) = 0
          · rw [if_pos h2] at h0; exact absurd rfl h0
          · rw [if_neg h2]
        rw [e]; simp
    obtain ⟨⟨L, e1⟩, hR1⟩ : ∃ r, pathR d f = r := ⟨_, rfl⟩
    obtain ⟨⟨a2, e2⟩, hR2⟩ : ∃ r, paidR d f = r := ⟨_, rfl⟩
    obtain ⟨⟨a3, e3⟩, hR3⟩ : ∃ r, freeR d t = r := ⟨_, rfl⟩
    rw [hR1] at hL
    have hL : L.length ≤ 1000 := hL
    have HR1 := Lib.hid hR1
    have HR2 := Lib.hid hR2
    have HR3 := Lib.hid hR3
    clear hR1 hR2 hR3 hl
    go_enter Try.func10, Try.ntmps10
    go_wp2_with (first | (go_at_call 27; refine (far_any _ d _ (HV.out.below HB0.out)).mono ?_; rintro e w1 ⟨rfl, hb⟩; rw [h1]; have HB1 := Lib.hid (bto HB0.out hb); have X := B0.keep hb; obtain ⟨aX, bX, cX, dX⟩ := id X; have lX := X.lt; clear hb B0) | (go_at_call 19; refine (copy_any _ d _ (HV.out.below HB1.out) hl1 hl2).mono ?_; rintro e w2 ⟨v', rfl, hown, hb⟩; have LO2 := Lib.hid hown.line; obtain ⟨pv', ov', rfl, hq1, hq2⟩ := hown; obtain ⟨Ap, cp, rfl⟩ := own_shape hq1; obtain ⟨Ao, co, rfl⟩ := own_shape hq2; have HB2 := Lib.hid (bto HB1.out hb); have X := X.keep hb; obtain ⟨aX, bX, cX, dX⟩ := id X; have lX := X.lt; clear hb hq1 hq2) | (go_at_call 40; refine (path_any _ d _ _ (LO2.out.below ((Below.refl _ _).alloc (Nat.le_refl _) _)) hl1).mono ?_; rintro e w3 ⟨lv3, rfl, hl, hb⟩; rw [HR1.out] at hl; rw [HR1.out]; have J1 := Lib.hid hl; have HB3 := Lib.hid (bto (HB2.out.alloc HB2.out.size _) hb); have LO3 := Lib.hid ((LO2.out.below ((Below.refl _ _).alloc (Nat.le_refl _) _)).below hb); have X := (X.old _).keep hb; have Y := (Box2.new w2 (.slice Ap d.pts.length cp) (.slice Ao d.odds.length co) 25).keep hb; obtain ⟨aX, bX, cX, dX⟩ := id X; have lX := X.lt; obtain ⟨aY, bY, cY, dY⟩ := id Y; have lY := Y.lt; clear hl hb HB2 LO2) | (go_at_call 41; refine (rPath_any _ d _ _ (HV.out.below HB3.out) hl1 hl2).mono ?_; rintro e w4 ⟨lv4, rfl, hl, hb⟩; rw [HR1.out] at hl; rw [HR1.out]; have J2 := Lib.hid hl; have HB4 := Lib.hid (bto HB3.out hb); have LO4 := Lib.hid (LO3.out.below hb); have X := X.keep hb; have Y := Y.keep hb; have J1 := Lib.hid (J1.out.below hb); obtain ⟨aX, bX, cX, dX⟩ := id X; have lX := X.lt; obtain ⟨aY, bY, cY, dY⟩ := id Y; have lY := Y.lt; clear hl hb HB3 LO3) | (go_at_call 42; refine (paid_any _ d _ _ LO4.out hl1).mono ?_; rintro e w5 ⟨rfl, hb⟩; rw [HR2.out]; have HB5 := Lib.hid (bto HB4.out hb); have LO5 := Lib.hid (LO4.out.below hb); have X := X.keep hb; have Y := Y.keep hb; have J1 := Lib.hid (J1.out.below hb); have J2 := Lib.hid (J2.out.below hb); obtain ⟨aX, bX, cX, dX⟩ := id X; have lX := X.lt; obtain ⟨aY, bY, cY, dY⟩ := id Y; have lY := Y.lt; clear hb HB4 LO4) | (go_at_call 43; refine (rPaid_any _ d _ _ (HV.out.below HB5.out) hl1 hl2).mono ?_; rintro e w6 ⟨rfl, hb⟩; rw [HR2.out]; have HB6 := Lib.hid (bto HB5.out hb); have LO6 := Lib.hid (LO5.out.below hb); have X := X.keep hb; have Y := Y.keep hb; have J1 := Lib.hid (J1.out.below hb); have J2 := Lib.hid (J2.out.below hb); obtain ⟨aX, bX, cX, dX⟩ := id X; have lX := X.lt; obtain ⟨aY, bY, cY, dY⟩ := id Y; have lY := Y.lt; clear hb HB5 LO5) | (go_at_call 22; refine (free_any _ d _ _ LO6.out hl1 hl2).mono ?_; rintro e w7 ⟨rfl, hb⟩; rw [HR3.out]; have HB7 := Lib.hid (bto HB6.out hb); have LO7 := Lib.hid (LO6.out.below hb); have X := X.keep hb; have Y := Y.keep hb; have J1 := Lib.hid (J1.out.below hb); have J2 := Lib.hid (J2.out.below hb); obtain ⟨aX, bX, cX, dX⟩ := id X; have lX := X.lt; obtain ⟨aY, bY, cY, dY⟩ := id Y; have lY := Y.lt; clear hb HB6 LO6) | (go_at_call 44; refine (rFree_any _ d _ _ (HV.out.below HB7.out) hl1 hl2).mono ?_; rintro e w8 ⟨rfl, hb⟩; rw [HR3.out]; have HB8 := Lib.hid (bto HB7.out hb); have LO8 := Lib.hid (LO7.out.below hb); have X := X.keep hb; have Y := Y.keep hb; have J1 := Lib.hid (J1.out.below hb); have J2 := Lib.hid (J2.out.below hb); obtain ⟨aX, bX, cX, dX⟩ := id X; have lX := X.lt; obtain ⟨aY, bY, cY, dY⟩ := id Y; have lY := Y.lt; clear hb HB7 LO7) | (go_at_call 45; refine (same_any _ _ L L _ J1.out J2.out hL hL).mono ?_; rintro e w9 ⟨rfl, hb⟩; rw [decide_eq_true (rfl : L = L)]; have HB9 := Lib.hid (bto HB8.out hb); have LO9 := Lib.hid (LO8.out.below hb); have X := X.keep hb; have Y := Y.keep hb; have J1 := Lib.hid (J1.out.below hb); have J2 := Lib.hid (J2.out.below hb); obtain ⟨aX, bX, cX, dX⟩ := id X; have lX := X.lt; obtain ⟨aY, bY, cY, dY⟩ := id Y; have lY := Y.lt; clear hb HB8 LO8) | (go_at_call 31; refine (sameLine_any _ _ d _ LO9.out (HV.out.below HB9.out) hl1 hl2).mono ?_; rintro e w10 ⟨rfl, hb⟩; have HB10 := Lib.hid (bto HB9.out hb); clear hb) | (go_at_call 18; refine (works_any _).mono ?_; rintro e w11 ⟨rfl, hb⟩; have HB11 := Lib.hid (bto HB10.out hb); clear hb))
    go_ret
    exact ⟨rfl, HB11.out⟩
  · go_enter Try.func10, Try.ntmps10
    go_wp2_with (first | (go_at_call 27; refine (far_any _ d _ (HV.out.below HB0.out)).mono ?_; rintro e w1 ⟨rfl, hb⟩; rw [h1]; have HB1 := Lib.hid (bto HB0.out hb); clear hb) | (go_at_call 18; refine (works_any _).mono ?_; rintro e w2 ⟨rfl, hb⟩; have HB2 := Lib.hid (bto HB1.out hb); clear hb))
    go_ret
    exact ⟨rfl, HB2.out⟩
end Go.Proofs.Ytbddaemekgflmaa
