/- Walks of Flow, Loss, Whole, Lossy. -/
import Derived.Test.YtbddaemekgflmaaW12
namespace Go.Proofs.Ytbddaemekgflmaa
open Go.RowKit Go.Sort

theorem flowsR_bd {d : DLine} {is : Bool} (h : (flowsR d is).2 = 0) : valid d = true ∧ is = true ∧ (flowsR d is).1 = flowsL d ∧ clashO d = none := by
  unfold flowsR at h ⊢
  by_cases h0 : askE d is = 0
  · obtain ⟨h1, h2⟩ := askE_ok h0
    rw [if_pos h0] at h ⊢
    by_cases hc : (clashO d).isSome = true
    · rw [if_pos hc] at h; cases h
    · rw [if_neg hc]; exact ⟨h1, h2, rfl, by simpa using hc⟩
  · rw [if_neg h0] at h; exact absurd h h0
theorem flowsL_bd {d : DLine} (h : valid d = true) : ∀ s ∈ flowsL d, (0 ≤ s.1 ∧ s.1 ≤ 99) ∧ 0 ≤ s.2 ∧ s.2 ≤ 99 := by
  intro s hs
  obtain ⟨i, hi, rfl⟩ := List.mem_map.1 hs
  have hi := List.mem_range.1 hi
  exact ⟨loSuf_bd h (d.pts.length - i) i (by omega), hiPre_bd h (i + 1)⟩
theorem isPt_spec {d : DLine} {n : Int} (h : isPt d n = true) : 0 ≤ n ∧ n < d.pts.length := by
  simp [isPt, inR] at h; omega
theorem isSt_spec {d : DLine} {n : Int} (h : isSt d n = true) : 0 ≤ n ∧ n < d.odds.length := by
  simp [isSt, inR] at h; omega
def flowR (d : DLine) (p : Int) : (Int × Int) × Int := if (flowsR d (isPt d p)).2 = 0 then (flowAt d p.toNat, 0) else ((0, 0), (flowsR d (isPt d p)).2)

set_option maxRecDepth 20000 in
set_option maxHeartbeats 2000000 in
theorem flow_any (v : Value) (d : DLine) (p : Int) (w : World) (hv : LineAt w v d) (hlen : d.odds.length ≤ 1000) (hlen' : d.pts.length ≤ 1000) :
    Calls Try.prog 36 #[v, I p] w fun e w' => e = .returned (.tuple #[.agg #[I (flowR d p).1.1, I (flowR d p).1.2], I (flowR d p).2]) ∧ Below w.heap.size w w' := by
  have HV := Lib.hid hv
  obtain ⟨pv, ov, rfl, hp, ho⟩ := hv
  have hb0 : ∀ x y, Below w.heap.size w ((w.alloc x).alloc y) := fun x y => ((Below.refl _ _).alloc (Nat.le_refl _) _).alloc (by simp) _
  clear hp ho
  have B0 := (Box2.new w pv ov 25).old (.cells #[I 0, I 0] 34)
  have B1 := (Box2.new (w.alloc (.cells #[pv, ov] 25)) (I 0) (I 0) 34).at_ (show _ = w.heap.size + 1 by simp)
  go_enter Try.func36, Try.ntmps36
  go_wp2_with fail
  refine wp_region_seg [([0, 1, 2], 3), ([], 4)] [5, 6, 7, 8] [9] 9 (by kernel_rfl) (by kernel_rfl) ?_
  intro KQ hKQ w1 hb1
  have B0 := B0.keep hb1
  have B1 := B1.keep hb1
  have k0 := cell_regrown B0.c0
  have k1 := cell_regrown B0.c1
  refine seg_next ?_
  simp only [opsAt, List.filterMap_cons, List.filterMap_nil, List.getElem?_toArray, List.getElem?_cons_succ, List.getElem?_cons_zero]
  repeat (first | go_big_quiet_step (fail) | quiet_step (fail))
  refine wpQuiet_nil ?_
  intro K hK
  refine loud_op rfl rfl ?_
  go_simp
  refine (isPt_any _ d _ _ (HV.out.below (bto (hb0 _ _) hb1)) hlen').mono ?_
  rintro e w2 ⟨rfl, hb2⟩
  refine hK _ _ hb2 ?_
  clear hK K k0 k1
  refine seg_next ?_
  simp only [opsAt, List.filterMap_nil]
  refine wpQuiet_nil ?_
  intro K hK
  refine loud_op rfl rfl ?_
  go_simp
  refine (flows_any _ d _ _ (HV.out.below (bto (hb0 _ _) (bto hb1 hb2))) hlen hlen').mono ?_
  rintro e w3 ⟨sv, rfl, hsp, hb3⟩
  refine hK _ _ hb3 ?_
  clear hK K
  refine seg_last ?_
  simp only [opsAt, List.filterMap_cons, List.filterMap_nil, List.getElem?_toArray, List.getElem?_cons_succ, List.getElem?_cons_zero]
  repeat (first | go_big_quiet_step (fail) | quiet_step (fail))
  refine wpQuiet_nil ?_
  obtain ⟨x0, x1, x2, x3⟩ := (B1.keep hb2).keep hb3
  obtain ⟨r1, r2⟩ := res2 x0 x1
  have HW := Lib.hid (bto (hb0 (.cells #[pv, ov] 25) (.cells #[I 0, I 0] 34)) (bto hb1 (bto hb2 hb3)))
  clear hb1 hb2 hb3 B0 B1
  by_cases h0 : (flowsR d (isPt d p)).2 = 0
  · obtain ⟨hvd, hpt, hfl, _⟩ := flowsR_bd h0
    obtain ⟨hp0, hp1⟩ := isPt_spec hpt
    have hR : flowR d p = (flowAt d p.toNat, 0) := by unfold flowR; rw [if_pos h0]
    have HR := Lib.hid hR
    rw [hfl] at hsp
    obtain ⟨p, rfl⟩ := Int.eq_ofNat_of_zero_le hp0
    obtain ⟨A, c, rfl, _, _, hcell⟩ := hsp.open_
    have hpl : p < (flowsL d).length := by simp [flowsL]; omega
    obtain ⟨b, o, rfl, hbl, hcell⟩ := hcell (by omega)
    obtain ⟨y1, y2⟩ := hcell p hpl
    have hfe : (flowsL d)[p] = flowAt d p := by simp [flowsL]
    rw [hfe] at y1 y2
    have hpl' : (p : Int) < ((flowsL d).length : Int) := by omega
    clear hcell hfe hfl hpt hR
    go_wp2_with fail
    refine bodyPost_ret (v := .tuple #[.agg #[I (flowAt d p).1, I (flowAt d p).2], I 0]) (by simp [results, Try.results36, go_sem, r1, r2]) rfl ⟨by rw [HR.out]; simp only [Int.toNat_natCast], ?_⟩
    exact (HW.out.setCell (p := ⟨w.heap.size + 1, 0, none⟩) (by simp) _).setCell (p := ⟨w.heap.size + 1, 1, none⟩) (by simp) _
  · have hR : flowR d p = ((0, 0), (flowsR d (isPt d p)).2) := by unfold flowR; rw [if_neg h0]
    have HR := Lib.hid hR
    have h0' : ((flowsR d (isPt d p)).2 != 0) = true := by simpa using h0
    clear hR h0 hsp
    go_wp2_with fail
    refine bodyPost_ret (v := .tuple #[.agg #[I 0, I 0], I (flowsR d (isPt d p)).2]) (by simp [results, Try.results36, go_sem, r1, r2]) rfl ⟨by rw [HR.out], ?_⟩
    exact (HW.out.setCell (p := ⟨w.heap.size + 1, 0, none⟩) (by simp) _).setCell (p := ⟨w.heap.size + 1, 1, none⟩) (by simp) _
end Go.Proofs.Ytbddaemekgflmaa
