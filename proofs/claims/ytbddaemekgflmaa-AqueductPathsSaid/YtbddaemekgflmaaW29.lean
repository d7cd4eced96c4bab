/- Walk of the reference's Path. -/
import Derived.Test.YtbddaemekgflmaaW25
import Derived.Test.YtbddaemekgflmaaW14
namespace Go.Proofs.Ytbddaemekgflmaa
open Go.RowKit Go.Sort

set_option maxRecDepth 20000 in
set_option maxHeartbeats 2000000 in
theorem rPath_any (v : Value) (d : DLine) (s : Int) (w : World) (hv : LineAt w v d) (hlen : d.odds.length ≤ 1000) (hlen' : d.pts.length ≤ 1000) :
    Calls Try.prog 41 #[v, I s] w (RetInts w (pathR d s).1 (pathR d s).2) := by
  obtain ⟨i0, hi, hz0, hz1, hz2⟩ := info_parts Try.info3
  have HV := Lib.hid hv
  obtain ⟨pv, ov, rfl, hp, ho⟩ := hv
  obtain ⟨A, c, rfl, hnc, hcm, _⟩ := ho.open_
  have hb0 : ∀ x, Below w.heap.size w (w.alloc x) := fun x => (Below.refl _ _).alloc (Nat.le_refl _) _
  clear hp ho
  have B0 := Box2.new w pv (.slice A d.odds.length c) 25
  have k0 := cell_regrown B0.c0
  have k1 := cell_regrown B0.c1
  have c1 := ext_call (w := w.alloc (.cells #[pv, .slice A d.odds.length c] 25)) fun W hW => rIsSt_any _ d s W (HV.out.below (bto (hb0 _) hW)) hlen
  have c2 := ext_call (w := w.alloc (.cells #[pv, .slice A d.odds.length c] 25)) fun W hW => rask_any _ d (isSt d s) W (HV.out.below (bto (hb0 _) hW)) hlen hlen'
  by_cases h0 : askE d (isSt d s) = 0
  · obtain ⟨hvd, hso⟩ := askE_ok h0
    have hR : pathR d s = (pathL d s d.odds.length 0 d.odds.length, 0) := by unfold pathR; rw [if_pos h0]
    rw [hR]
    rw [h0] at c2
    obtain ⟨hn, -⟩ := valid_spec hvd
    have HVD := Lib.hid hvd
    have hst : 0 < d.odds.length := by
      have := hso
      simp [isSt, inR] at this
      omega
    clear hR h0 hso hvd
    go_enter Try.func41, Try.ntmps41
    go_wp2_with fail
    refine wp_region_ext (by kernel_rfl) (by kernel_rfl) ?_
    repeat (first | go_big_quiet_step (first | exact c1 _ _ | exact c2 _ _) | quiet_step (first | exact c1 _ _ | exact c2 _ _))
    refine wpQuiet_nil ?_
    clear c1 c2 k0 k1
    intro w1 hb
    have B1 := B0.keep hb
    have HB1 := Lib.hid (bto (hb0 (.cells #[pv, .slice A d.odds.length c] 25)) hb)
    clear hb B0
    obtain ⟨x0, x1, x2, x3⟩ := id B1
    go_wp2_with fail
    have k0 := cell_regrown B1.c0
    have k1 := cell_regrown B1.c1
    refine wp_region_ext (by kernel_rfl) (by kernel_rfl) ?_
    repeat (first | go_big_quiet_step (fail) | quiet_step (fail))
    refine wpQuiet_nil ?_
    clear k0 k1
    intro w3 hb
    have HB3 := Lib.hid (B1.keep hb)
    have HBW := Lib.hid (bto HB1.out hb)
    clear hb B1 x0 x1 x2 x3
    go_wp2_with fail
    go_loopw [7, 8, 9] (fun out fr to wr => ∃ (acc : List Int) (f t : Nat), f < t ∧ t ≤ d.odds.length ∧ fr = I f ∧ to = I t ∧ acc.length + (t - f) ≤ d.odds.length ∧ acc ++ pathL d s (t - f) f t = pathL d s d.odds.length 0 d.odds.length ∧ wr.ownsRow w3.heap.size 3 1 out acc.length (acc.map I) ∧ Below w3.heap.size w3 wr) (fun _ fr to _ => (intOf to).toNat - (intOf fr).toNat)
    case atStart => exact ⟨[], 0, d.odds.length, hst, by omega, rfl, rfl, by simp, by simp, World.ownsRow_nil _ _ _ _, Below.refl _ _⟩
    case round =>
      obtain ⟨acc, f, t, hft, htn, rfl, rfl, hal, hacc, hown, hbw⟩ := hrel
      by_cases h1 : f + 1 < t
      · obtain ⟨x0, x1, x2, x3⟩ := HB3.out.keep hbw
        rw [pathL_step d s f t h1] at hacc
        obtain ⟨hp1, hp2⟩ := nextN_bd (d := d) h1
        generalize hpn : nextN d f t = p at *
        have HP := Lib.hid hpn
        have HA := Lib.hid hacc
        clear hpn hacc
        have HW := Lib.hid hbw
        clear hbw
        by_cases hsp : s < p
        · go_wp2_with (first | (go_at_call 66; refine (rnext_any d HVD.out f t _ _ (by omega) htn (HV.out.below (bto HBW.out HW.out))).mono ?_; rintro e w5 ⟨rfl, hb5⟩; rw [HP.out]; have HW5 := Lib.hid (bto HW.out hb5); have hown5 := own_below hown hb5; have hs5 := hb5.size; clear hb5) | (at_builtin; refine wpList_append_own _ rfl _ _ 23 rfl w3.heap.size 3 i0 (.int .i64 0) 1 8 Try.underlying23 hi hz0 hz1 hz2 rfl (by decide) _ _ _ rfl (hown5.alloc _) ⟨w5.heap.size, 0, none⟩ 1 1 [I p] rfl rfl (cell_one_new _ _ _) (by simp [Value.oneCell']) (by simp only [maxLen]; omega) (by omega) (by have := HW5.out.size; simp; omega) ?_; intro v' w4 hown' hgrow _))
          go_roundw
          case rel => exact ⟨acc ++ [(p : Int)], f, p, by omega, by omega, rfl, rfl, by simp; omega, by have := HA.out; rw [if_pos hsp] at this; simpa using this, by simpa using hown', ((HW5.out.alloc HW5.out.size _).grown hgrow (by have := HW5.out.size; simp; omega) (fun k hk => (hown5.lt k hk).1))⟩
          case measure => simp [intOf]; omega
        · go_wp2_with (first | (go_at_call 66; refine (rnext_any d HVD.out f t _ _ (by omega) htn (HV.out.below (bto HBW.out HW.out))).mono ?_; rintro e w5 ⟨rfl, hb5⟩; rw [HP.out]; have HW5 := Lib.hid (bto HW.out hb5); have hown5 := own_below hown hb5; have hs5 := hb5.size; clear hb5) | (at_builtin; refine wpList_append_own _ rfl _ _ 23 rfl w3.heap.size 3 i0 (.int .i64 0) 1 8 Try.underlying23 hi hz0 hz1 hz2 rfl (by decide) _ _ _ rfl (hown5.alloc _) ⟨w5.heap.size, 0, none⟩ 1 1 [I p] rfl rfl (cell_one_new _ _ _) (by simp [Value.oneCell']) (by simp only [maxLen]; omega) (by omega) (by have := HW5.out.size; simp; omega) ?_; intro v' w4 hown' hgrow _))
          go_roundw
          case rel => exact ⟨acc ++ [(p : Int)], p, t, by omega, by omega, rfl, rfl, by simp; omega, by have := HA.out; rw [if_neg (show ¬ s < (p : Int) by omega)] at this; simpa using this, by simpa using hown', ((HW5.out.alloc HW5.out.size _).grown hgrow (by have := HW5.out.size; simp; omega) (fun k hk => (hown5.lt k hk).1))⟩
          case measure => simp [intOf]; omega
      · have he : acc = pathL d s d.odds.length 0 d.odds.length := by
          rw [← hacc, show t - f = 1 from by omega, pathL, if_neg h1, List.append_nil]
        have HE := Lib.hid he
        clear he hacc
        go_wp2_with fail
        go_ret2
        exact ⟨_, rfl, by rw [← HE.out]; exact Ints.of_own hown, bto HBW.out hbw⟩
  · have hR : pathR d s = ([], askE d (isSt d s)) := by unfold pathR; rw [if_neg h0]
    rw [hR]
    have h0' : (askE d (isSt d s) != 0) = true := by simpa using h0
    clear hR h0
    go_enter Try.func41, Try.ntmps41
    go_wp2_with fail
    refine wp_region_ext (by kernel_rfl) (by kernel_rfl) ?_
    repeat (first | go_big_quiet_step (first | exact c1 _ _ | exact c2 _ _) | quiet_step (first | exact c1 _ _ | exact c2 _ _))
    refine wpQuiet_nil ?_
    clear c1 c2 k0 k1
    intro w1 hb1
    go_wp2_with fail
    go_ret2
    exact ⟨_, rfl, ⟨rfl, none, 0, rfl, by simp, by omega, fun h => absurd h (by simp)⟩, bto (hb0 _) hb1⟩
end Go.Proofs.Ytbddaemekgflmaa
