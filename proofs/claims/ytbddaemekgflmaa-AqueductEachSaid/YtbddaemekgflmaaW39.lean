/- Walks of the reference's known, Flow, lossOf. -/
import Derived.Test.YtbddaemekgflmaaW38
import Derived.Test.YtbddaemekgflmaaW23
import Derived.Test.YtbddaemekgflmaaW13
namespace Go.Proofs.Ytbddaemekgflmaa
open Go.RowKit Go.Sort

theorem flowsR_ask {d : DLine} {is : Bool} (h : askE d is ≠ 0) : flowsR d is = ([], askE d is) := by unfold flowsR; rw [if_neg h]
theorem flowsR_none {d : DLine} {is : Bool} (h : askE d is = 0) (hc : oneB d = false) : flowsR d is = ([], 3) := by
  unfold flowsR
  rw [oneB_clash (askE_ok h).1] at hc
  rw [if_pos h, if_pos (by cases hx : clashO d <;> simp [hx] at hc ⊢)]
theorem flowsR_one {d : DLine} {is : Bool} (h : askE d is = 0) (hc : oneB d = true) : flowsR d is = (flowsL d, 0) := by
  unfold flowsR
  rw [oneB_clash (askE_ok h).1] at hc
  rw [if_pos h, if_neg (by cases hx : clashO d <;> simp [hx] at hc ⊢)]
theorem flowsR_calm {d : DLine} {is : Bool} (h : (flowsR d is).2 = 0) : calm d.pts := (clash_none d).1 (flowsR_bd h).2.2.2

set_option maxHeartbeats 1000000 in
theorem rknown_any (v : Value) (d : DLine) (is : Bool) (w : World) (hv : LineAt w v d) (hlen : d.odds.length ≤ 1000) (hlen' : d.pts.length ≤ 1000) :
    Calls Try.prog 76 #[v, .bool is] w fun e w' => e = .returned (I (flowsR d is).2) ∧ Below w.heap.size w w' := by
  have HV := Lib.hid hv
  obtain ⟨pv, ov, rfl, hp, ho⟩ := hv
  have hb0 : ∀ x, Below w.heap.size w (w.alloc x) := fun x => (Below.refl _ _).alloc (Nat.le_refl _) _
  have B0 := Box2.new w pv ov 25
  clear hp ho
  by_cases h0 : askE d is = 0
  · have HVD := Lib.hid (askE_ok h0).1
    have H0 := Lib.hid h0
    cases h1 : oneB d
    · have HR := Lib.hid (flowsR_none h0 h1)
      have H1 := Lib.hid h1
      clear h0 h1
      go_enter Try.func76, Try.ntmps76
      go_wp2_with (first | (go_at_call 64; refine (rask_any _ d is _ (HV.out.below (hb0 _)) hlen hlen').mono ?_; rintro e w1 ⟨rfl, hb⟩; rw [H0.out]; have HB1 := Lib.hid (bto (hb0 _) hb); obtain ⟨x0, x1, x2, x3⟩ := B0.keep hb; clear hb) | (go_at_call 47; refine (one_any _ d _ (HV.out.below HB1.out) HVD.out).mono ?_; rintro e w2 ⟨rfl, hb⟩; rw [H1.out]; have HB2 := Lib.hid (bto HB1.out hb); clear hb))
      go_ret
      exact ⟨by rw [HR.out]; rfl, HB2.out⟩
    · have HR := Lib.hid (flowsR_one h0 h1)
      have H1 := Lib.hid h1
      clear h0 h1
      go_enter Try.func76, Try.ntmps76
      go_wp2_with (first | (go_at_call 64; refine (rask_any _ d is _ (HV.out.below (hb0 _)) hlen hlen').mono ?_; rintro e w1 ⟨rfl, hb⟩; rw [H0.out]; have HB1 := Lib.hid (bto (hb0 _) hb); obtain ⟨x0, x1, x2, x3⟩ := B0.keep hb; clear hb) | (go_at_call 47; refine (one_any _ d _ (HV.out.below HB1.out) HVD.out).mono ?_; rintro e w2 ⟨rfl, hb⟩; rw [H1.out]; have HB2 := Lib.hid (bto HB1.out hb); clear hb))
      go_ret
      exact ⟨by rw [HR.out]; rfl, HB2.out⟩
  · have HR := Lib.hid (flowsR_ask h0)
    have h0' : (askE d is != 0) = true := by simpa using h0
    clear h0
    go_enter Try.func76, Try.ntmps76
    go_wp2_with (go_at_call 64; refine (rask_any _ d is _ (HV.out.below (hb0 _)) hlen hlen').mono ?_; rintro e w1 ⟨rfl, hb⟩; have HB1 := Lib.hid (bto (hb0 _) hb); clear hb)
    go_ret
    exact ⟨by rw [HR.out]; rfl, HB1.out⟩

set_option maxRecDepth 20000 in
set_option maxHeartbeats 2000000 in
theorem rFlow_any (v : Value) (d : DLine) (p : Int) (w : World) (hv : LineAt w v d) (hlen : d.odds.length ≤ 1000) (hlen' : d.pts.length ≤ 1000) :
    Calls Try.prog 37 #[v, I p] w fun e w' => e = .returned (.tuple #[.agg #[I (flowR d p).1.1, I (flowR d p).1.2], I (flowR d p).2]) ∧ Below w.heap.size w w' := by
  have HV := Lib.hid hv
  obtain ⟨pv, ov, rfl, hp, ho⟩ := hv
  have hb0 : ∀ x y, Below w.heap.size w ((w.alloc x).alloc y) := fun x y => ((Below.refl _ _).alloc (Nat.le_refl _) _).alloc (by simp) _
  clear hp ho
  have B0 := (Box2.new w pv ov 25).old (.cells #[I 0, I 0] 34)
  have B1 := (Box2.new (w.alloc (.cells #[pv, ov] 25)) (I 0) (I 0) 34).at_ (show _ = w.heap.size + 1 by simp)
  have k0 := cell_regrown B0.c0
  have k1 := cell_regrown B0.c1
  have c1 := ext_call (w := (w.alloc (.cells #[pv, ov] 25)).alloc (.cells #[I 0, I 0] 34)) fun W hW => rIsPt_any _ d p W (HV.out.below (bto (hb0 _ _) hW)) hlen'
  have c2 := ext_call (w := (w.alloc (.cells #[pv, ov] 25)).alloc (.cells #[I 0, I 0] 34)) fun W hW => rknown_any _ d (isPt d p) W (HV.out.below (bto (hb0 _ _) hW)) hlen hlen'
  have HBW := Lib.hid (hb0 (.cells #[pv, ov] 25) (.cells #[I 0, I 0] 34))
  by_cases h0 : (flowsR d (isPt d p)).2 = 0
  · obtain ⟨hvd, hpt, -, -⟩ := flowsR_bd h0
    obtain ⟨hp0, hp1⟩ := isPt_spec hpt
    have HR := Lib.hid (show flowR d p = (flowAt d p.toNat, 0) by unfold flowR; rw [if_pos h0])
    have HCM := Lib.hid (flowsR_calm h0)
    have HVD := Lib.hid hvd
    rw [h0] at c2
    obtain ⟨p, rfl⟩ := Int.eq_ofNat_of_zero_le hp0
    have hpl : p < d.pts.length := by omega
    clear h0 hvd hpt
    go_enter Try.func37, Try.ntmps37
    go_wp2_with fail
    refine wp_region_ext (by kernel_rfl) (by kernel_rfl) ?_
    repeat (first | go_big_quiet_step (first | exact c1 _ _ | exact c2 _ _) | quiet_step (first | exact c1 _ _ | exact c2 _ _))
    refine wpQuiet_nil ?_
    clear c1 c2 k0 k1
    intro w1 hb
    have HW1 := Lib.hid (bto HBW.out hb)
    obtain ⟨x0, x1, x2, x3⟩ := B0.keep hb
    have B1 := B1.keep hb
    clear hb B0
    go_wp2_with (go_at_call 77; refine (flowOf_any _ d p _ (HV.out.below HW1.out) HVD.out HCM.out hpl).mono ?_; rintro e w2 ⟨rfl, hb⟩; have HW2 := Lib.hid (bto HW1.out hb); have B2 := B1.keep hb; obtain ⟨z0, z1, z2, z3⟩ := id B2; clear hb)
    obtain ⟨r1, r2⟩ := res2 z0 z1
    refine bodyPost_ret (v := .tuple #[.agg #[I (flowAt d p).1, I (flowAt d p).2], I 0]) (by simp [results, Try.results37, go_sem, r1, r2]) rfl ⟨by rw [HR.out]; simp only [Int.toNat_natCast], ?_⟩
    exact (HW2.out.setCell (p := ⟨w.heap.size + 1, 0, none⟩) (by simp) _).setCell (p := ⟨w.heap.size + 1, 1, none⟩) (by simp) _
  · have HR := Lib.hid (show flowR d p = ((0, 0), (flowsR d (isPt d p)).2) by unfold flowR; rw [if_neg h0])
    have h0' : ((flowsR d (isPt d p)).2 != 0) = true := by simpa using h0
    clear h0
    go_enter Try.func37, Try.ntmps37
    go_wp2_with fail
    refine wp_region_ext (by kernel_rfl) (by kernel_rfl) ?_
    repeat (first | go_big_quiet_step (first | exact c1 _ _ | exact c2 _ _) | quiet_step (first | exact c1 _ _ | exact c2 _ _))
    refine wpQuiet_nil ?_
    clear c1 c2 k0 k1
    intro w1 hb
    have HW1 := Lib.hid (bto HBW.out hb)
    obtain ⟨x0, x1, x2, x3⟩ := B1.keep hb
    clear hb B0
    obtain ⟨r1, r2⟩ := res2 x0 x1
    go_wp2_with fail
    refine bodyPost_ret (v := .tuple #[.agg #[I 0, I 0], I (flowsR d (isPt d p)).2]) (by simp [results, Try.results37, go_sem, r1, r2]) rfl ⟨by rw [HR.out], ?_⟩
    exact (HW1.out.setCell (p := ⟨w.heap.size + 1, 0, none⟩) (by simp) _).setCell (p := ⟨w.heap.size + 1, 1, none⟩) (by simp) _

def lossP (d : DLine) (f t : Nat) : Int × Int := if f = t then (0, 0) else (max 0 (loSuf d.pts f - hiPre d.pts (t + 1)), hiPre d.pts (f + 1) - loSuf d.pts t)
theorem lostF_lossP (d : DLine) (f t : Nat) (hf : f < d.pts.length) (ht : t < d.pts.length) : lostF (flowsL d) f t = lossP d f t := by
  unfold lostF lossP
  have e : ∀ i, i < d.pts.length → (flowsL d).getD i (0, 0) = flowAt d i := fun i hi => by simp [flowsL, List.getD, hi]
  rw [e f hf, e t ht]; rfl
/-- What a round of 'lossOf' adds. -/
theorem loss_round {d : DLine} (hv : valid d = true) (hc : calm d.pts) (f t : Nat) (hft : f ≤ t) (ht : t < d.pts.length) (n : Int) (h0 : loSuf d.pts f ≤ n) (h1 : n ≤ hiPre d.pts (f + 1)) :
    ∃ a b M X : Int, flowAt (setFlow d f n n) t = (a, b) ∧ (0 ≤ a ∧ a ≤ 99 ∧ 0 ≤ b ∧ b ≤ 99) ∧ M ≤ n - b ∧ (n = loSuf d.pts f → M = n - b) ∧ X = n - a ∧ M = (if f = t then 0 else max 0 (loSuf d.pts f - hiPre d.pts (t + 1))) ∧ X = (if f = t then 0 else n - loSuf d.pts t) := by
  have b1 := loSuf_bd hv (d.pts.length - f) f (by omega)
  have b2 := hiPre_bd hv (f + 1)
  have b3 := loSuf_bd hv (d.pts.length - t) t (by omega)
  have b4 := hiPre_bd hv (t + 1)
  by_cases e : f = t
  · subst e
    refine ⟨n, n, 0, 0, flow_self hv hc f ht n h0 h1, by omega, by omega, by omega, by omega, by rw [if_pos rfl], by rw [if_pos rfl]⟩
  · refine ⟨loSuf d.pts t, min n (hiPre d.pts (t + 1)), _, _, flow_setFlow f t (by omega) ht n h0 h1, by omega, ?_, ?_, ?_, rfl, rfl⟩
    · rw [if_neg e]; omega
    · intro h; rw [if_neg e]; omega
    · rw [if_neg e]
end Go.Proofs.Ytbddaemekgflmaa
