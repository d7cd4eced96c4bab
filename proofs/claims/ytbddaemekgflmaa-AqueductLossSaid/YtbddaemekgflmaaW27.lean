/- Walk of Same, at two readings of one line. -/
import Derived.Test.YtbddaemekgflmaaW21
namespace Go.Proofs.Ytbddaemekgflmaa
open Go.RowKit Go.Sort

set_option maxRecDepth 20000 in
set_option maxHeartbeats 2000000 in
theorem sameLine_any (va vb : Value) (d : DLine) (w : World) (ha : LineAt w va d) (hb : LineAt w vb d) (hlen : d.odds.length ≤ 1000) (hlen' : d.pts.length ≤ 1000) :
    Calls Try.prog 31 #[va, vb] w fun e w' => e = .returned (.bool true) ∧ Below w.heap.size w w' := by
  obtain ⟨pa, oa, rfl, hpa, hoa⟩ := ha
  obtain ⟨pb, ob, rfl, hpb, hob⟩ := hb
  obtain ⟨A1, c1, rfl, _, _, hp1⟩ := id hpa.open_
  obtain ⟨A2, c2, rfl, _, _, hp2⟩ := id hpb.open_
  obtain ⟨A3, c3, rfl, _, _, _⟩ := id hoa.open_
  obtain ⟨A4, c4, rfl, _, _, _⟩ := id hob.open_
  have HP1 := Lib.hid hp1
  have HP2 := Lib.hid hp2
  have HOA := Lib.hid hoa
  have HOB := Lib.hid hob
  have B0 := (Box2.new w (.slice A1 d.pts.length c1) (.slice A3 d.odds.length c3) 25).old (.cells #[.slice A2 d.pts.length c2, .slice A4 d.odds.length c4] 25)
  have C0 := (Box2.new (w.alloc (.cells #[.slice A1 d.pts.length c1, .slice A3 d.odds.length c3] 25)) (.slice A2 d.pts.length c2) (.slice A4 d.odds.length c4) 25).at_ (show _ = w.heap.size + 1 by simp)
  have HB0 := Lib.hid (show Below w.heap.size w ((w.alloc (.cells #[.slice A1 d.pts.length c1, .slice A3 d.odds.length c3] 25)).alloc (.cells #[.slice A2 d.pts.length c2, .slice A4 d.odds.length c4] 25)) from ((Below.refl _ _).alloc (Nat.le_refl _) _).alloc (by simp) _)
  clear hpa hpb hoa hob hp1 hp2
  go_enter Try.func31, Try.ntmps31
  go_wp2_with (go_at_call 45; refine (same_any _ _ d.odds d.odds _ (HOA.out.below HB0.out) (HOB.out.below HB0.out) hlen hlen).mono ?_; rintro e w1 ⟨rfl, hb⟩; rw [decide_eq_true (rfl : d.odds = d.odds)]; have HB1 := Lib.hid (bto HB0.out hb); have B1 := B0.keep hb; have C1 := C0.keep hb; clear hb B0 C0)
  have hB := Lib.hid B1
  have hC := Lib.hid C1
  clear B1 C1
  go_loopw [5] (fun i wr => ∃ k : Nat, k ≤ d.pts.length ∧ i = I k ∧ Hid (Box2 wr w.heap.size (.slice A1 d.pts.length c1) (.slice A3 d.odds.length c3)) ∧ Hid (Box2 wr (w.heap.size + 1) (.slice A2 d.pts.length c2) (.slice A4 d.odds.length c4)) ∧ Hid (Below w.heap.size w wr)) (fun i _ => d.pts.length - (intOf i).toNat)
  case atStart => exact ⟨0, by omega, rfl, hB, hC, HB1⟩
  case round =>
    clear hB hC
    obtain ⟨k, hk, rfl, hB, hC, hW⟩ := hrel
    obtain ⟨x0, x1, x2, x3⟩ := id hB.out
    by_cases hlt : k < d.pts.length
    · obtain ⟨b1, o1, e1, _, hc1⟩ := HP1.out (by omega)
      obtain ⟨b2, o2, e2, _, hc2⟩ := HP2.out (by omega)
      obtain ⟨y0, y1, y2⟩ := hc1 k hlt
      obtain ⟨z0, z1, z2⟩ := hc2 k hlt
      subst e1
      subst e2
      have j0 := cell_regrown hB.out.c0
      have j1 := cell_regrown hC.out.c0
      have j2 := cell_regrown (keep_cell hW.out y0)
      have j3 := cell_regrown (keep_cell hW.out y1)
      have j4 := cell_regrown (keep_cell hW.out y2)
      have j5 := cell_regrown (keep_cell hW.out z0)
      have j6 := cell_regrown (keep_cell hW.out z1)
      have j7 := cell_regrown (keep_cell hW.out z2)
      have i1 : (k : Int) < (d.pts.length : Int) := by omega
      clear hc1 hc2 y0 y1 y2 z0 z1 z2
      go_wp2_with fail
      refine wp_region_ext (by kernel_rfl) (by kernel_rfl) ?_
      repeat (first | go_big_quiet_step (fail) | quiet_step (fail))
      refine wpQuiet_nil ?_
      clear j0 j1 j2 j3 j4 j5 j6 j7
      intro wn hb
      have HBN := Lib.hid hb
      clear hb
      go_wp2_with fail
      go_roundw
      case rel => exact ⟨k + 1, by omega, by go_num, Lib.hid (hB.out.keep HBN.out), Lib.hid (hC.out.keep HBN.out), Lib.hid (bto hW.out HBN.out)⟩
      case measure => first | (simp [intOf]; done) | (simp [intOf]; omega)
    · obtain rfl : k = d.pts.length := by omega
      go_wp2_with fail
      go_ret
      exact ⟨rfl, hW.out⟩
end Go.Proofs.Ytbddaemekgflmaa
