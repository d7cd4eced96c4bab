/- Walk of the reference's Clash. -/
import Derived.Test.YtbddaemekgflmaaW17
import Derived.Test.YtbddaemekgflmaaW33
namespace Go.Proofs.Ytbddaemekgflmaa
open Go.RowKit Go.Sort

set_option maxRecDepth 20000 in
set_option maxHeartbeats 3000000 in
theorem rClash_any (v : Value) (d : DLine) (w : World) (hv : LineAt w v d) (hlen' : d.odds.length ≤ 1000) (hlen : d.pts.length ≤ 1000) :
    Calls Try.prog 35 #[v] w fun e w' => e = .returned (.tuple #[.agg #[I (clashR d).1.1, I (clashR d).1.2], I (clashR d).2]) ∧ Below w.heap.size w w' := by
  have HV := Lib.hid hv
  obtain ⟨pv, ov, rfl, hp, ho⟩ := hv
  obtain ⟨A, c, rfl, hnc, hcm, hcell⟩ := id hp.open_
  have hb0 : ∀ x y, Below w.heap.size w ((w.alloc x).alloc y) := fun x y => ((Below.refl _ _).alloc (Nat.le_refl _) _).alloc (by simp) _
  clear hp ho
  have HC := Lib.hid hcell
  clear hcell
  have B0 := (Box2.new w (.slice A d.pts.length c) ov 25).old (.cells #[I 0, I 0] 56)
  have R0 := (Box2.new (w.alloc (.cells #[.slice A d.pts.length c, ov] 25)) (I 0) (I 0) 56).at_ (show _ = w.heap.size + 1 by simp)
  have HBW := Lib.hid (hb0 (.cells #[.slice A d.pts.length c, ov] 25) (.cells #[I 0, I 0] 56))
  cases hvd : valid d
  · have HK := Lib.hid (show chk d = 60 by simp [chk, hvd])
    have HR := Lib.hid (show clashR d = ((0, 0), 60) by simp [clashR, hvd])
    clear hvd
    go_enter Try.func35, Try.ntmps35
    go_wp2_with (go_at_call 33; refine (rCheck_any _ d _ (HV.out.below HBW.out) hlen' hlen).mono ?_; rintro e w1 ⟨rfl, hb⟩; rw [HK.out]; have HB1 := Lib.hid (bto HBW.out hb); have Y := R0.keep hb; obtain ⟨y0, y1, y2, y3⟩ := id Y; obtain ⟨r1, r2⟩ := res2 y0 y1; clear hb)
    refine bodyPost_ret (v := .tuple #[.agg #[I 0, I 0], I 60]) (by simp [results, Try.results35, go_sem, r1, r2]) rfl ⟨by rw [HR.out], ?_⟩
    exact (HB1.out.setCell (p := ⟨w.heap.size + 1, 0, none⟩) (by simp) _).setCell (p := ⟨w.heap.size + 1, 1, none⟩) (by simp) _
  · have HK := Lib.hid (show chk d = 0 by simp [chk, hvd])
    have HVD := Lib.hid hvd
    clear hvd
    go_enter Try.func35, Try.ntmps35
    go_wp2_with (go_at_call 33; refine (rCheck_any _ d _ (HV.out.below HBW.out) hlen' hlen).mono ?_; rintro e w1 ⟨rfl, hb⟩; rw [HK.out]; have HB1 := Lib.hid (bto HBW.out hb); have X := B0.keep hb; have Y := R0.keep hb; clear hb B0 R0 HBW)
    go_loopw [5] (fun i wr => ∃ b : Nat, b ≤ d.pts.length ∧ i = I b ∧ Hid (clB d.pts (d.pts.length - b) = clashO d) ∧ Box2 wr w.heap.size (.slice A d.pts.length c) ov ∧ Box2 wr (w.heap.size + 1) (I 0) (I 0) ∧ Below w.heap.size w wr) (fun i _ => d.pts.length - (intOf i).toNat)
    case atStart => exact ⟨0, by omega, rfl, Lib.hid rfl, X, Y, HB1.out⟩
    case round =>
      clear X Y HB1
      obtain ⟨b, hb, rfl, hcl, hb1, hb2, hbw⟩ := hrel
      by_cases hbl : b < d.pts.length
      · obtain ⟨e1, e2, e3, e4⟩ := hb1
        obtain ⟨e5, e6, e7, e8⟩ := hb2
        have HW := Lib.hid hbw
        clear hbw
        go_wp2_with fail
        obtain ⟨wo, rfl⟩ : ∃ wo : World, wo = wr := ⟨_, rfl⟩
        have HB1 := Lib.hid (Box2.mk e1 e2 e3 e4)
        have HB2 := Lib.hid (Box2.mk e5 e6 e7 e8)
        clear e1 e2 e3 e4 e5 e6 e7 e8
        go_loopw [6] (fun i wr => ∃ k : Nat, k ≤ b ∧ i = I ((k : Int) - 1) ∧ Hid (clA d.pts b k = clA d.pts b b) ∧ Below wo.heap.size wo wr) (fun i _ => (intOf i + 1).toNat)
        case atStart => exact ⟨b, by omega, by rfl, Lib.hid rfl, Below.refl _ _⟩
        case round =>
          obtain ⟨k, hk, rfl, hca, hbw2⟩ := hrel
          obtain ⟨e1, e2, e3, e4⟩ := HB1.out.keep hbw2
          obtain ⟨e5, e6, e7, e8⟩ := HB2.out.keep hbw2
          by_cases hk0 : 0 < k
          · obtain ⟨a, rfl⟩ : ∃ a, k = a + 1 := ⟨k - 1, by omega⟩
            obtain ⟨B, o, rfl, hBl, hcell⟩ := HC.out (by omega)
            obtain ⟨x1, _, _⟩ := hcell b hbl
            obtain ⟨_, y2, _⟩ := hcell a (by omega)
            have hww := bto HW.out hbw2
            have x1' := keep_cell hww x1
            have y2' := keep_cell hww y2
            have k0 := cell_regrown e1
            have k1 := cell_regrown x1'
            have k2 := cell_regrown y2'
            have hka : ((a + 1 : Nat) : Int) - 1 = (a : Int) := by omega
            rw [hka]
            have HW2 := Lib.hid hbw2
            have HE := Lib.hid (And.intro e5 (And.intro e6 (And.intro e7 (And.intro e8 e1))))
            clear hka x1 y2 x1' y2' hcell hbw2 hww e1 e2 e3 e4 e5 e6 e7 e8
            go_wp2_with fail
            refine wp_region_ext (by kernel_rfl) (by kernel_rfl) ?_
            repeat (first | go_big_quiet_step (fail) | quiet_step (fail))
            refine wpQuiet_nil ?_
            clear k0 k1 k2
            intro w3 hb3
            by_cases hlt : d.pts[a].hi < d.pts[b].lo
            · obtain ⟨e5, e6, e7, e8, e1⟩ := HE.out
              have e5 := keep_cell hb3 e5
              have e6 := keep_cell hb3 e6
              have e7 : w3.frozen? ⟨w.heap.size + 1, 0, none⟩ = false := by rw [(bcell hb3).2 _ _ (World.block_lt_of_cell? wr _ HE.out.1)]; exact HE.out.2.2.1
              have e8 : w3.frozen? ⟨w.heap.size + 1, 1, none⟩ = false := by rw [(bcell hb3).2 _ _ (World.block_lt_of_cell? wr _ HE.out.1)]; exact HE.out.2.2.2.1
              obtain ⟨r1, r2⟩ := res2 e5 e6
              have HW3 := Lib.hid hb3
              clear hb3 e1
              go_wp2_with fail
              have hres : clashO d = some (a, b) := by
                have h1 := hcl.out
                obtain ⟨m, hm⟩ : ∃ m, d.pts.length - b = m + 1 := ⟨d.pts.length - b - 1, by omega⟩
                have h2 := hca.out
                rw [clA, if_pos (by simpa [List.getD, hbl, show a < d.pts.length by omega] using hlt)] at h2
                rw [← h1, hm, clB, show d.pts.length - (m + 1) = b by omega, ← h2]
              have HR := Lib.hid (show clashR d = (((a : Int), (b : Int)), 0) by simp [clashR, HVD.out, hres])
              refine bodyPost_ret (v := .tuple #[.agg #[I a, I b], I 0]) (by simp [results, Try.results35, go_sem, r1, r2]) rfl ⟨by rw [HR.out], ?_⟩
              exact (((bto HW.out (bto HW2.out HW3.out)).setCell (p := ⟨w.heap.size + 1, 0, none⟩) (by simp) _).setCell (p := ⟨w.heap.size + 1, 1, none⟩) (by simp) _)
            · go_wp2_with fail
              go_roundw
              case rel => exact ⟨a, by omega, by go_num, Lib.hid (by rw [← hca.out, clA, if_neg (by simpa [List.getD, hbl, show a < d.pts.length by omega] using hlt)]), bto HW2.out hb3⟩
              case measure => first | (simp [intOf]; done) | (simp [intOf]; omega)
          · obtain rfl : k = 0 := by omega
            have HW2 := Lib.hid hbw2
            clear hbw2
            have HE1 := Lib.hid (Box2.mk e1 e2 e3 e4)
            have HE2 := Lib.hid (Box2.mk e5 e6 e7 e8)
            go_wp2_with fail
            go_roundw
            case rel => exact ⟨b + 1, by omega, by go_num, Lib.hid (by
              have h1 := hcl.out
              obtain ⟨m, hm⟩ : ∃ m, d.pts.length - b = m + 1 := ⟨d.pts.length - b - 1, by omega⟩
              have h2 := hca.out
              rw [hm, clB, show d.pts.length - (m + 1) = b by omega, ← h2, clA] at h1
              rw [← h1, show d.pts.length - (b + 1) = m by omega]), HE1.out, HE2.out, bto HW.out HW2.out⟩
            case measure => first | (simp [intOf]; done) | (simp [intOf]; omega)
      · obtain rfl : b = d.pts.length := by omega
        obtain ⟨e1, e2, e3, e4⟩ := hb1
        obtain ⟨e5, e6, e7, e8⟩ := hb2
        obtain ⟨r1, r2⟩ := res2 e5 e6
        have HW := Lib.hid hbw
        clear hbw
        go_wp2_with fail
        have hres : clashO d = none := by
          have h1 := hcl.out
          rw [Nat.sub_self] at h1
          exact h1.symm
        have HR := Lib.hid (show clashR d = ((0, 0), 3) by simp [clashR, HVD.out, hres])
        refine bodyPost_ret (v := .tuple #[.agg #[I 0, I 0], I 3]) (by simp [results, Try.results35, go_sem, r1, r2]) rfl ⟨by rw [HR.out], ?_⟩
        exact ((HW.out.setCell (p := ⟨w.heap.size + 1, 0, none⟩) (by simp) _).setCell (p := ⟨w.heap.size + 1, 1, none⟩) (by simp) _)
end Go.Proofs.Ytbddaemekgflmaa
