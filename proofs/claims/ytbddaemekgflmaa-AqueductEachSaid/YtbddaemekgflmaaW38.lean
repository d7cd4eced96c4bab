/- Walk of the reference's flowOf. -/
import Derived.Test.YtbddaemekgflmaaW37
import Derived.Deep.LoopGhost
namespace Go.Proofs.Ytbddaemekgflmaa
open Go.RowKit Go.Sort

theorem Box2.set1 {w : World} {B : Nat} {u0 u1 : Value} (h : Box2 w B u0 u1) (u : Value) : Box2 (w.setCell ⟨B, 1, none⟩ u) B u0 u :=
  ⟨by rw [World.cell?_setCell_other _ _ _ _ (by simp)]; exact h.c0, World.cell?_setCell_same _ _ _ h.c1, by simpa [go_sem] using h.f0, by simpa [go_sem] using h.f1⟩

set_option maxRecDepth 20000 in
set_option maxHeartbeats 2000000 in
theorem flowOf_any (v : Value) (d : DLine) (p : Nat) (w : World) (hv : LineAt w v d) (hvd : valid d = true) (hcm : calm d.pts) (hp : p < d.pts.length) :
    Calls Try.prog 77 #[v, I p] w fun e w' => e = .returned (.agg #[I (flowAt d p).1, I (flowAt d p).2]) ∧ Below w.heap.size w w' := by
  have HV := Lib.hid hv
  have hn7 := (valid_spec hvd).1
  have hpn := (valid_spec hvd).2.1
  obtain ⟨pv, ov, rfl, hpp, ho⟩ := hv
  obtain ⟨A, c, rfl, hac, hcmx, ha⟩ := id hpp.open_
  obtain ⟨b, o, rfl, hbl, hcell⟩ := ha (by omega)
  have hb0 : ∀ x y, Below w.heap.size w ((w.alloc x).alloc y) := fun x y => ((Below.refl _ _).alloc (Nat.le_refl _) _).alloc (by simp) _
  have B0 := (Box2.new w (.slice (some ⟨b, o, none⟩) d.pts.length c) ov 25).old (.cells #[I 0, I 0] 34)
  have R0 := (Box2.new (w.alloc (.cells #[.slice (some ⟨b, o, none⟩) d.pts.length c, ov] 25)) (I 0) (I 0) 34).at_ (show _ = w.heap.size + 1 by simp)
  have y0 := box_old (w.alloc (.cells #[.slice (some ⟨b, o, none⟩) d.pts.length c, ov] 25)) (.cells #[I 0, I 0] 34) (box_old w (.cells #[.slice (some ⟨b, o, none⟩) d.pts.length c, ov] 25) (hcell p hp).1)
  have y1 := box_old (w.alloc (.cells #[.slice (some ⟨b, o, none⟩) d.pts.length c, ov] 25)) (.cells #[I 0, I 0] 34) (box_old w (.cells #[.slice (some ⟨b, o, none⟩) d.pts.length c, ov] 25) (hcell p hp).2.1)
  have hpi : (p : Int) < (d.pts.length : Int) := by omega
  obtain ⟨L, hL⟩ : ∃ L, loSuf d.pts p = L := ⟨_, rfl⟩
  obtain ⟨H, hH⟩ : ∃ H, hiPre d.pts (p + 1) = H := ⟨_, rfl⟩
  have HC := Lib.hid (fun x => canB_eq hvd hcm p hp x)
  have hLH := calm_flow hvd hcm p hp
  have hL1 := ((loSuf_le d.pts p (by omega) (loSuf d.pts p)).1 (Int.le_refl _)).2 p (Nat.le_refl _) hp
  have hH1 := ((hiPre_all d.pts (p + 1) (by omega) (hiPre d.pts (p + 1))).1 (Int.le_refl _)).2 p (by omega)
  rw [show d.pts.getD p default = d.pts[p] by simp [List.getD, List.getElem?_eq_getElem hp]] at hL1 hH1
  obtain ⟨hpt1, hpt2, hpt3⟩ := valid_pt hvd p hp
  rw [show d.pts.getD p default = d.pts[p] by simp [List.getD, List.getElem?_eq_getElem hp]] at hpt1 hpt2 hpt3
  have HF := Lib.hid (show flowAt d p = (L, H) by unfold flowAt; rw [hL, hH])
  rw [hL, hH] at HC hLH
  rw [hL] at hL1
  rw [hH] at hH1
  have HVD := Lib.hid hvd
  have HBW := Lib.hid (hb0 (.cells #[.slice (some ⟨b, o, none⟩) d.pts.length c, ov] 25) (.cells #[I 0, I 0] 34))
  have HB0 := Lib.hid B0
  have HR0 := Lib.hid R0
  obtain ⟨x0, x1, x2, x3⟩ := B0
  clear hcell ha hpp ho hvd hpn hn7 hL hH R0 hcm
  go_enter Try.func77, Try.ntmps77
  go_wp2_with fail
  obtain ⟨W0, hW0⟩ : ∃ W0, (w.alloc (.cells #[.slice (some ⟨b, o, none⟩) d.pts.length c, ov] 25)).alloc (.cells #[I 0, I 0] 34) = W0 := ⟨_, rfl⟩
  have hs0 : W0.heap.size = w.heap.size + 2 := by rw [← hW0]; simp
  rw [hW0] at HBW HB0 HR0
  rw [hW0]
  have hS0 := (Box2.new W0 (I d.pts[p].lo) (I d.pts[p].hi) 34).at_ hs0
  have HS0 := Lib.hid hS0
  have HB1 := Lib.hid (HB0.out.old (.cells #[I d.pts[p].lo, I d.pts[p].hi] 34))
  have HR1 := Lib.hid (HR0.out.old (.cells #[I d.pts[p].lo, I d.pts[p].hi] 34))
  have HW1 := Lib.hid (HBW.out.alloc HBW.out.size (.cells #[I d.pts[p].lo, I d.pts[p].hi] 34))
  clear x0 x1 x2 x3 y0 y1 hS0 hW0 HB0 HR0 HBW
  go_loopg [] (L - d.pts[p].lo).toNat (fun k wr => ∃ cur : Int, d.pts[p].lo ≤ cur ∧ cur ≤ L ∧ Hid ((k : Int) = L - cur) ∧ Hid (Box2 wr (w.heap.size + 2) (I cur) (I d.pts[p].hi)) ∧ Hid (Box2 wr w.heap.size (.slice (some ⟨b, o, none⟩) d.pts.length c) ov) ∧ Hid (Box2 wr (w.heap.size + 1) (I 0) (I 0)) ∧ Hid (Below w.heap.size w wr))
  case atStart => exact ⟨_, Int.le_refl _, hL1, Lib.hid (by omega), HS0, HB1, HR1, HW1⟩
  case round =>
    clear HS0 HB1 HR1 HW1
    obtain ⟨cur, hc1, hc2, hk, HS, HB, HR, HW⟩ := hrel
    obtain ⟨x0, x1, x2, x3⟩ := id HB.out
    obtain ⟨z0, z1, z2, z3⟩ := id HS.out
    by_cases hlt : cur < L
    · have HCC := Lib.hid (show canB d p cur = false by rw [HC.out]; simp [inR]; omega)
      go_wp2_with (go_at_call 85; refine (can_any _ d p _ _ (HV.out.below HW.out) HVD.out hp).mono ?_; rintro e w1 ⟨rfl, hb⟩; rw [HCC.out]; have HW1 := Lib.hid (bto HW.out hb); have HS1 := Lib.hid (HS.out.keep hb); have HB1 := Lib.hid (HB.out.keep hb); have HR1 := Lib.hid (HR.out.keep hb); obtain ⟨z0, z1, z2, z3⟩ := id HS1.out; clear hb)
      go_roundg (gk - 1)
      case measure => have := hk.out; omega
      case rel => exact ⟨cur + 1, by omega, by omega, Lib.hid (by have := hk.out; omega), Lib.hid (HS1.out.set0 _), Lib.hid (HB1.out.other _ _ (by show w.heap.size + 2 ≠ _; omega)), Lib.hid (HR1.out.other _ _ (by show w.heap.size + 2 ≠ _; omega)), Lib.hid (HW1.out.setCell (p := ⟨w.heap.size + 2, 0, none⟩) (by simp) _)⟩
    · obtain rfl : cur = L := by omega
      have HCC := Lib.hid (show canB d p cur = true by rw [HC.out]; simp [inR]; omega)
      go_wp2_with (go_at_call 85; refine (can_any _ d p _ _ (HV.out.below HW.out) HVD.out hp).mono ?_; rintro e w1 ⟨rfl, hb⟩; rw [HCC.out]; have HW1 := Lib.hid (bto HW.out hb); have HS1 := Lib.hid (HS.out.keep hb); have HB1 := Lib.hid (HB.out.keep hb); have HR1 := Lib.hid (HR.out.keep hb); clear hb)
      clear HS HB HR HW x0 x1 x2 x3 z0 z1 z2 z3 hk
      go_loopg [] (d.pts[p].hi - H).toNat (fun k wr => ∃ top : Int, top ≤ d.pts[p].hi ∧ H ≤ top ∧ Hid ((k : Int) = top - H) ∧ Hid (Box2 wr (w.heap.size + 2) (I cur) (I top)) ∧ Hid (Box2 wr w.heap.size (.slice (some ⟨b, o, none⟩) d.pts.length c) ov) ∧ Hid (Box2 wr (w.heap.size + 1) (I 0) (I 0)) ∧ Hid (Below w.heap.size w wr))
      case atStart => exact ⟨_, Int.le_refl _, hH1, Lib.hid (by omega), HS1, HB1, HR1, HW1⟩
      case round =>
        clear HS1 HB1 HR1 HW1
        obtain ⟨top, ht1, ht2, hk, HS, HB, HR, HW⟩ := hrel
        obtain ⟨x0, x1, x2, x3⟩ := id HB.out
        obtain ⟨z0, z1, z2, z3⟩ := id HS.out
        by_cases hlt : H < top
        · have HCC := Lib.hid (show canB d p top = false by rw [HC.out]; simp [inR]; omega)
          go_wp2_with (go_at_call 85; refine (can_any _ d p _ _ (HV.out.below HW.out) HVD.out hp).mono ?_; rintro e w2 ⟨rfl, hb⟩; rw [HCC.out]; have HW1 := Lib.hid (bto HW.out hb); have HS1 := Lib.hid (HS.out.keep hb); have HB1 := Lib.hid (HB.out.keep hb); have HR1 := Lib.hid (HR.out.keep hb); obtain ⟨z0, z1, z2, z3⟩ := id HS1.out; clear hb)
          go_roundg (gk - 1)
          case measure => have := hk.out; omega
          case rel => exact ⟨top - 1, by omega, by omega, Lib.hid (by have := hk.out; omega), Lib.hid (HS1.out.set1 _), Lib.hid (HB1.out.other _ _ (by show w.heap.size + 2 ≠ _; omega)), Lib.hid (HR1.out.other _ _ (by show w.heap.size + 2 ≠ _; omega)), Lib.hid (HW1.out.setCell (p := ⟨w.heap.size + 2, 1, none⟩) (by simp) _)⟩
        · obtain rfl : top = H := by omega
          have HCC := Lib.hid (show canB d p top = true by rw [HC.out]; simp [inR]; omega)
          go_wp2_with (go_at_call 85; refine (can_any _ d p _ _ (HV.out.below HW.out) HVD.out hp).mono ?_; rintro e w2 ⟨rfl, hb⟩; rw [HCC.out]; have HW1 := Lib.hid (bto HW.out hb); have HR1 := Lib.hid (HR.out.keep hb); obtain ⟨z0, z1, z2, z3⟩ := HS.out.keep hb; obtain ⟨x0, x1, x2, x3⟩ := id HR1.out; clear hb)
          obtain ⟨r1, r2⟩ := res2 x0 x1
          refine bodyPost_ret (v := .agg #[I cur, I top]) (by simp [results, Try.results77, go_sem, r1, r2]) rfl ⟨by rw [HF.out], ?_⟩
          exact (HW1.out.setCell (p := ⟨w.heap.size + 1, 0, none⟩) (by simp) _).setCell (p := ⟨w.heap.size + 1, 1, none⟩) (by simp) _
end Go.Proofs.Ytbddaemekgflmaa
