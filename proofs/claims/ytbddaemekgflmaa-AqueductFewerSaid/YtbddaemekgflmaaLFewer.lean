/- AqueductFewer: the law walked. -/
import Derived.Test.YtbddaemekgflmaaRow
import Derived.Test.YtbddaemekgflmaaW21
import Derived.Test.YtbddaemekgflmaaPlain5
namespace Go.Proofs.Ytbddaemekgflmaa
open Go.RowKit Go.Sort

theorem costAt_at (d : DLine) (p : Nat) (hp : p < d.pts.length) : costAt d p = d.pts[p].cost := by
  unfold costAt; rw [List.getElem?_eq_getElem hp]; rfl
theorem nextR_ok {d : DLine} (h : valid d = true) (f t : Nat) (hf : f + 2 ≤ t) (ht : t ≤ d.odds.length) : nextR d f t = (((nextN d f t : Nat) : Int), 0) := by
  have h1 : someOf d f t = true := by simp [someOf]; omega
  have h2 : askE d true = 0 := by simp [askE, h]
  unfold nextR
  rw [h1, if_pos h2, if_neg (by omega)]
  simp only [Int.toNat_natCast]
theorem nextR_one {d : DLine} (h : valid d = true) (f t : Nat) (hf : t = f + 1) (ht : t ≤ d.odds.length) : nextR d f t = (0, 3) := by
  have h1 : someOf d f t = true := by simp [someOf]; omega
  have h2 : askE d true = 0 := by simp [askE, h]
  unfold nextR
  rw [h1, if_pos h2, if_pos (by omega)]

set_option maxRecDepth 100000 in
set_option maxHeartbeats 4000000 in
theorem lawFewer_any (v : Value) (d : DLine) (f t x y : Int) (w : World) (hv : LineAt w v d) :
    Calls Try.prog 6 #[v, .agg #[I f, I t, I x, I y]] w fun e w' => e = .returned (.bool true) ∧ Below w.heap.size w w' := by
  have HV := Lib.hid hv
  obtain ⟨pv, ov, rfl, hp, ho⟩ := hv
  obtain ⟨A, c1, rfl, hac, hcm, _⟩ := id ho.open_
  obtain ⟨A', c2, rfl, hac', hcm', hpc⟩ := id hp.open_
  have HPC := Lib.hid hpc
  have B0 := (Box2.new w (.slice A' d.pts.length c2) (.slice A d.odds.length c1) 25).old (.cells #[I f, I t, I x, I y] 27)
  have S0 := Cells.new (w.alloc (.cells #[.slice A' d.pts.length c2, .slice A d.odds.length c1] 25)) [I f, I t, I x, I y] 27
  have hs1 : (w.alloc (.cells #[.slice A' d.pts.length c2, .slice A d.odds.length c1] 25)).heap.size = w.heap.size + 1 := by simp
  rw [hs1] at S0
  have HB0 := Lib.hid (show Below w.heap.size w ((w.alloc (.cells #[.slice A' d.pts.length c2, .slice A d.odds.length c1] 25)).alloc (.cells #[I f, I t, I x, I y] 27)) from ((Below.refl _ _).alloc (Nat.le_refl _) _).alloc (by simp) _)
  clear hp ho hs1 hpc
  cases h1 : valid d
  · go_enter Try.func6, Try.ntmps6
    go_wp2_with (first | (go_at_call 15; refine (ready_any _ d _ (HV.out.below HB0.out)).mono ?_; rintro e w1 ⟨rfl, hb⟩; rw [h1]; have HB1 := Lib.hid (bto HB0.out hb); have B1 := B0.keep hb; have S1 := S0.keep hb; obtain ⟨x0, x1, x2, x3⟩ := id B1; have s0 := S1 0 _ rfl; have s1 := S1 1 _ rfl; have s2 := S1 2 _ rfl; have s3 := S1 3 _ rfl; clear hb HB0 B0 S0) | (go_at_call 18; refine (works_any _).mono ?_; rintro e w99 ⟨rfl, hb⟩; have HB99 := Lib.hid (bto HB1.out hb); clear hb))
    go_ret
    exact ⟨rfl, HB99.out⟩
  · obtain ⟨hn7, hnp, -⟩ := valid_spec h1
    have HNP := Lib.hid hnp
    have hl1 : d.odds.length ≤ 1000 := by omega
    have hl2 : d.pts.length ≤ 1000 := by omega
    have hpos : 0 < d.pts.length := by omega
    clear hnp
    cases h2 : someOf d f t
    · have H2 := Lib.hid h2
      clear h2
      go_enter Try.func6, Try.ntmps6
      go_wp2_with (first | (go_at_call 15; refine (ready_any _ d _ (HV.out.below HB0.out)).mono ?_; rintro e w1 ⟨rfl, hb⟩; rw [h1]; have HB1 := Lib.hid (bto HB0.out hb); have B1 := B0.keep hb; have S1 := S0.keep hb; obtain ⟨x0, x1, x2, x3⟩ := id B1; have s0 := S1 0 _ rfl; have s1 := S1 1 _ rfl; have s2 := S1 2 _ rfl; have s3 := S1 3 _ rfl; clear hb HB0 B0 S0) | (go_at_call 16; refine (rAreSome_any _ d _ _ _ (HV.out.below HB1.out) hl1).mono ?_; rintro e w2 ⟨rfl, hb⟩; rw [H2.out]; have HB2 := Lib.hid (bto HB1.out hb); have B2 := B1.keep hb; have S2 := S1.keep hb; obtain ⟨x0, x1, x2, x3⟩ := id B2; have s0 := S2 0 _ rfl; have s1 := S2 1 _ rfl; have s2 := S2 2 _ rfl; have s3 := S2 3 _ rfl; clear hb HB1 B1 S1) | (go_at_call 18; refine (works_any _).mono ?_; rintro e w99 ⟨rfl, hb⟩; have HB99 := Lib.hid (bto HB2.out hb); clear hb))
      go_ret
      exact ⟨rfl, HB99.out⟩
    · obtain ⟨hf0, hft, htn⟩ := someOf_spec h2
      have H2 := Lib.hid h2
      clear h2
      cases h3 : someOf d x y
      · have H3 := Lib.hid h3
        clear h3
        go_enter Try.func6, Try.ntmps6
        go_wp2_with (first | (go_at_call 15; refine (ready_any _ d _ (HV.out.below HB0.out)).mono ?_; rintro e w1 ⟨rfl, hb⟩; rw [h1]; have HB1 := Lib.hid (bto HB0.out hb); have B1 := B0.keep hb; have S1 := S0.keep hb; obtain ⟨x0, x1, x2, x3⟩ := id B1; have s0 := S1 0 _ rfl; have s1 := S1 1 _ rfl; have s2 := S1 2 _ rfl; have s3 := S1 3 _ rfl; clear hb HB0 B0 S0) | (go_at_call 16; refine (rAreSome_any _ d _ _ _ (HV.out.below HB1.out) hl1).mono ?_; rintro e w2 ⟨rfl, hb⟩; rw [H2.out]; have HB2 := Lib.hid (bto HB1.out hb); have B2 := B1.keep hb; have S2 := S1.keep hb; obtain ⟨x0, x1, x2, x3⟩ := id B2; have s0 := S2 0 _ rfl; have s1 := S2 1 _ rfl; have s2 := S2 2 _ rfl; have s3 := S2 3 _ rfl; clear hb HB1 B1 S1) | (go_at_call 16; refine (rAreSome_any _ d _ _ _ (HV.out.below HB2.out) hl1).mono ?_; rintro e w3 ⟨rfl, hb⟩; rw [H3.out]; have HB3 := Lib.hid (bto HB2.out hb); have B3 := B2.keep hb; have S3 := S2.keep hb; obtain ⟨x0, x1, x2, x3⟩ := id B3; have s0 := S3 0 _ rfl; have s1 := S3 1 _ rfl; have s2 := S3 2 _ rfl; have s3 := S3 3 _ rfl; clear hb HB2 B2 S2) | (go_at_call 18; refine (works_any _).mono ?_; rintro e w99 ⟨rfl, hb⟩; have HB99 := Lib.hid (bto HB3.out hb); clear hb))
        go_ret
        exact ⟨rfl, HB99.out⟩
      · obtain ⟨hx0, hxy, hyn⟩ := someOf_spec h3
        have H3 := Lib.hid h3
        clear h3
        by_cases hxf : x < f
        · go_enter Try.func6, Try.ntmps6
          go_wp2_with (first | (go_at_call 15; refine (ready_any _ d _ (HV.out.below HB0.out)).mono ?_; rintro e w1 ⟨rfl, hb⟩; rw [h1]; have HB1 := Lib.hid (bto HB0.out hb); have B1 := B0.keep hb; have S1 := S0.keep hb; obtain ⟨x0, x1, x2, x3⟩ := id B1; have s0 := S1 0 _ rfl; have s1 := S1 1 _ rfl; have s2 := S1 2 _ rfl; have s3 := S1 3 _ rfl; clear hb HB0 B0 S0) | (go_at_call 16; refine (rAreSome_any _ d _ _ _ (HV.out.below HB1.out) hl1).mono ?_; rintro e w2 ⟨rfl, hb⟩; rw [H2.out]; have HB2 := Lib.hid (bto HB1.out hb); have B2 := B1.keep hb; have S2 := S1.keep hb; obtain ⟨x0, x1, x2, x3⟩ := id B2; have s0 := S2 0 _ rfl; have s1 := S2 1 _ rfl; have s2 := S2 2 _ rfl; have s3 := S2 3 _ rfl; clear hb HB1 B1 S1) | (go_at_call 16; refine (rAreSome_any _ d _ _ _ (HV.out.below HB2.out) hl1).mono ?_; rintro e w3 ⟨rfl, hb⟩; rw [H3.out]; have HB3 := Lib.hid (bto HB2.out hb); have B3 := B2.keep hb; have S3 := S2.keep hb; obtain ⟨x0, x1, x2, x3⟩ := id B3; have s0 := S3 0 _ rfl; have s1 := S3 1 _ rfl; have s2 := S3 2 _ rfl; have s3 := S3 3 _ rfl; clear hb HB2 B2 S2) | (go_at_call 18; refine (works_any _).mono ?_; rintro e w99 ⟨rfl, hb⟩; have HB99 := Lib.hid (bto HB3.out hb); clear hb))
          go_ret
          exact ⟨rfl, HB99.out⟩
        · by_cases hty : t < y
          · go_enter Try.func6, Try.ntmps6
            go_wp2_with (first | (go_at_call 15; refine (ready_any _ d _ (HV.out.below HB0.out)).mono ?_; rintro e w1 ⟨rfl, hb⟩; rw [h1]; have HB1 := Lib.hid (bto HB0.out hb); have B1 := B0.keep hb; have S1 := S0.keep hb; obtain ⟨x0, x1, x2, x3⟩ := id B1; have s0 := S1 0 _ rfl; have s1 := S1 1 _ rfl; have s2 := S1 2 _ rfl; have s3 := S1 3 _ rfl; clear hb HB0 B0 S0) | (go_at_call 16; refine (rAreSome_any _ d _ _ _ (HV.out.below HB1.out) hl1).mono ?_; rintro e w2 ⟨rfl, hb⟩; rw [H2.out]; have HB2 := Lib.hid (bto HB1.out hb); have B2 := B1.keep hb; have S2 := S1.keep hb; obtain ⟨x0, x1, x2, x3⟩ := id B2; have s0 := S2 0 _ rfl; have s1 := S2 1 _ rfl; have s2 := S2 2 _ rfl; have s3 := S2 3 _ rfl; clear hb HB1 B1 S1) | (go_at_call 16; refine (rAreSome_any _ d _ _ _ (HV.out.below HB2.out) hl1).mono ?_; rintro e w3 ⟨rfl, hb⟩; rw [H3.out]; have HB3 := Lib.hid (bto HB2.out hb); have B3 := B2.keep hb; have S3 := S2.keep hb; obtain ⟨x0, x1, x2, x3⟩ := id B3; have s0 := S3 0 _ rfl; have s1 := S3 1 _ rfl; have s2 := S3 2 _ rfl; have s3 := S3 3 _ rfl; clear hb HB2 B2 S2) | (go_at_call 18; refine (works_any _).mono ?_; rintro e w99 ⟨rfl, hb⟩; have HB99 := Lib.hid (bto HB3.out hb); clear hb))
            go_ret
            exact ⟨rfl, HB99.out⟩
          · obtain ⟨f, rfl⟩ := Int.eq_ofNat_of_zero_le hf0
            obtain ⟨t, rfl⟩ := Int.eq_ofNat_of_zero_le (show 0 ≤ t by omega)
            obtain ⟨x, rfl⟩ := Int.eq_ofNat_of_zero_le hx0
            obtain ⟨y, rfl⟩ := Int.eq_ofNat_of_zero_le (show 0 ≤ y by omega)
            have hcn : ∀ q, 0 ≤ costAt d q ∧ costAt d q ≤ 20 := fun q => costAt_bd h1 q
            have bm := worst_bd h1 f t (by omega) (by omega)
            have bk := worst_bd h1 x y (by omega) (by omega)
            have bs := wt_sub (fun q => (hcn q).1) (t - f) f x y (by omega) (by omega) (by omega)
            have HCN := Lib.hid hcn
            obtain ⟨M, hM⟩ : ∃ M, worstN d f t = M := ⟨_, rfl⟩
            obtain ⟨K, hK⟩ : ∃ K, worstN d x y = K := ⟨_, rfl⟩
            rw [← worst_wt, hK, ← worst_wt, hM] at bs
            have hw1 := worstR_ok h1 f t (by omega) (by omega)
            have hw2 := worstR_ok h1 x y (by omega) (by omega)
            rw [hM] at bm hw1
            rw [hK] at bk hw2
            have HW1 := Lib.hid hw1
            have HW2 := Lib.hid hw2
            have HM := Lib.hid hM
            obtain ⟨bm1, bm2⟩ := bm
            have t1 : decide (K < 0) = false := decide_eq_false (by omega)
            have t2 : decide (M < K) = false := decide_eq_false (by omega)
            have t3 : decide (140 < M) = false := decide_eq_false (by omega)
            clear hcn bk bs hM hK hw1 hw2
            by_cases hone : t = f + 1
            · have hM0 : M = 0 := by rw [← HM.out, worst_wt]; exact wt_small _ _ _ (by omega)
              subst hM0
              have HN := Lib.hid (nextR_one h1 f t hone (by omega))
              have hz : ((t : Int) == (f : Int) + 1) = true := beq_iff_eq.2 (by omega)
              clear hone
              go_enter Try.func6, Try.ntmps6
              go_wp2_with (first | (go_at_call 15; refine (ready_any _ d _ (HV.out.below HB0.out)).mono ?_; rintro e w1 ⟨rfl, hb⟩; rw [h1]; have HB1 := Lib.hid (bto HB0.out hb); have B1 := B0.keep hb; have S1 := S0.keep hb; obtain ⟨x0, x1, x2, x3⟩ := id B1; have s0 := S1 0 _ rfl; have s1 := S1 1 _ rfl; have s2 := S1 2 _ rfl; have s3 := S1 3 _ rfl; clear hb HB0 B0 S0) | (go_at_call 16; refine (rAreSome_any _ d _ _ _ (HV.out.below HB1.out) hl1).mono ?_; rintro e w2 ⟨rfl, hb⟩; rw [H2.out]; have HB2 := Lib.hid (bto HB1.out hb); have B2 := B1.keep hb; have S2 := S1.keep hb; obtain ⟨x0, x1, x2, x3⟩ := id B2; have s0 := S2 0 _ rfl; have s1 := S2 1 _ rfl; have s2 := S2 2 _ rfl; have s3 := S2 3 _ rfl; clear hb HB1 B1 S1) | (go_at_call 16; refine (rAreSome_any _ d _ _ _ (HV.out.below HB2.out) hl1).mono ?_; rintro e w3 ⟨rfl, hb⟩; rw [H3.out]; have HB3 := Lib.hid (bto HB2.out hb); have B3 := B2.keep hb; have S3 := S2.keep hb; obtain ⟨x0, x1, x2, x3⟩ := id B3; have s0 := S3 0 _ rfl; have s1 := S3 1 _ rfl; have s2 := S3 2 _ rfl; have s3 := S3 3 _ rfl; clear hb HB2 B2 S2) | (go_at_call 20; refine (worst_any _ d _ _ _ (HV.out.below HB3.out) hl1).mono ?_; rintro e w4 ⟨rfl, hb⟩; rw [HW1.out]; have HB4 := Lib.hid (bto HB3.out hb); have B4 := B3.keep hb; have S4 := S3.keep hb; obtain ⟨x0, x1, x2, x3⟩ := id B4; have s0 := S4 0 _ rfl; have s1 := S4 1 _ rfl; have s2 := S4 2 _ rfl; have s3 := S4 3 _ rfl; clear hb HB3 B3 S3) | (go_at_call 20; refine (worst_any _ d _ _ _ (HV.out.below HB4.out) hl1).mono ?_; rintro e w5 ⟨rfl, hb⟩; rw [HW2.out]; have HB5 := Lib.hid (bto HB4.out hb); have B5 := B4.keep hb; have S5 := S4.keep hb; obtain ⟨x0, x1, x2, x3⟩ := id B5; have s0 := S5 0 _ rfl; have s1 := S5 1 _ rfl; have s2 := S5 2 _ rfl; have s3 := S5 3 _ rfl; clear hb HB4 B4 S4))
              go_loop [9, 10, 11] (fun al le p => ∃ k : Nat, f + k + 1 ≤ t ∧ p = I ((f : Int) + k + 1) ∧ al = I (sumC (costAt d) f k) ∧ le = I (minC (costAt d) f k)) (fun _ _ p => t - (intOf p).toNat)
              case atStart => exact ⟨0, by omega, by go_num, rfl, rfl⟩
              case round =>
                obtain ⟨k, hk, rfl, rfl, rfl⟩ := hrel
                have b1 := bd_sum HCN.out f k
                have b2 := bd_min HCN.out f k
                obtain ⟨b1a, b1b⟩ := b1
                obtain ⟨b2a, b2b⟩ := b2
                by_cases hlt : f + k + 1 < t
                · obtain ⟨b, o, hbo, hbl, hcell⟩ := HPC.out hpos
                  have hpl : f + k + 1 < d.pts.length := by have := HNP.out; omega
                  have hz := keep_cell HB5.out (hcell _ hpl).2.2
                  have hcost := costAt_at d _ hpl
                  have hcb := HCN.out (f + k + 1)
                  rw [← hcost] at hz
                  have HSU := Lib.hid (show sumC (costAt d) f (k + 1) = sumC (costAt d) f k + costAt d (f + k + 1) from rfl)
                  have HMI := Lib.hid (show minC (costAt d) f (k + 1) = min (minC (costAt d) f k) (costAt d (f + k + 1)) from rfl)
                  obtain ⟨C, hC⟩ : ∃ C, costAt d (f + k + 1) = C := ⟨_, rfl⟩
                  rw [hC] at hz hcb HSU HMI
                  obtain ⟨cb1, cb2⟩ := hcb
                  obtain ⟨SU, hSU⟩ : ∃ S, sumC (costAt d) f k = S := ⟨_, rfl⟩
                  obtain ⟨MI, hMI⟩ : ∃ S, minC (costAt d) f k = S := ⟨_, rfl⟩
                  rw [hSU] at HSU b1a b1b ⊢
                  rw [hMI] at HMI b2a b2b ⊢
                  subst hbo
                  have i1 : ((f : Int) + k + 1) = ((f + k + 1 : Nat) : Int) := by omega
                  have i2 : ((f + k + 1 : Nat) : Int) < (d.pts.length : Int) := by omega
                  rw [i1]
                  clear hcell hcost hC hSU hMI i1
                  by_cases hmn : MI ≤ C
                  · go_wp2_with fail
                    go_round
                    case rel => exact ⟨k + 1, by omega, by go_num, by rw [HSU.out], by rw [HMI.out, show min MI C = MI by omega]⟩
                    case measure => first | (simp [intOf]; done) | (simp [intOf]; omega)
                  · go_wp2_with fail
                    go_round
                    case rel => exact ⟨k + 1, by omega, by go_num, by rw [HSU.out], by rw [HMI.out, show min MI C = C by omega, if_pos (by omega)]⟩
                    case measure => first | (simp [intOf]; done) | (simp [intOf]; omega)
                · have HK := Lib.hid (show k = t - f - 1 by omega)
                  have i1 : ((f : Int) + k + 1) = (t : Int) := by omega
                  rw [i1, HK.out]
                  go_wp2_with (first | (go_at_call 25; refine (next_any _ d _ _ _ (HV.out.below HB5.out) hl1).mono ?_; rintro e w6 ⟨rfl, hb⟩; rw [HN.out]; have HB6 := Lib.hid (bto HB5.out hb); have B6 := B5.keep hb; have S6 := S5.keep hb; obtain ⟨x0, x1, x2, x3⟩ := id B6; have s0 := S6 0 _ rfl; have s1 := S6 1 _ rfl; have s2 := S6 2 _ rfl; have s3 := S6 3 _ rfl; clear hb HB5 B5 S5) | (go_at_call 18; refine (works_any _).mono ?_; rintro e w99 ⟨rfl, hb⟩; have HB99 := Lib.hid (bto HB6.out hb); clear hb))
                  go_ret
                  exact ⟨rfl, HB99.out⟩
            · have hz : ((t : Int) == (f : Int) + 1) = false := beq_eq_false_iff_ne.2 (by omega)
              obtain ⟨n1, n2, n3⟩ := next_spec d f t (by omega)
              have HN := Lib.hid (nextR_ok h1 f t (by omega) (by omega))
              obtain ⟨p, hp⟩ : ∃ p, nextN d f t = p := ⟨_, rfl⟩
              rw [hp] at n1 n2 n3 HN
              rw [HM.out] at n3
              have bx := worst_bd h1 f p (by omega) (by omega)
              have bz := worst_bd h1 p t (by omega) (by omega)
              obtain ⟨X, hX⟩ : ∃ X, worstN d f p = X := ⟨_, rfl⟩
              obtain ⟨Z, hZ⟩ : ∃ Z, worstN d p t = Z := ⟨_, rfl⟩
              have HX := Lib.hid (show worstR d f p = (X, 0) by rw [worstR_ok h1 f p (by omega) (by omega), hX])
              have HZ := Lib.hid (show worstR d p t = (Z, 0) by rw [worstR_ok h1 p t (by omega) (by omega), hZ])
              have hpp : p < d.pts.length := by have := HNP.out; omega
              have hcp := HCN.out p
              have hce := costAt_at d p hpp
              obtain ⟨C, hC⟩ : ∃ C, costAt d p = C := ⟨_, rfl⟩
              rw [hC] at n3 hcp hce
              rw [hX, hZ] at n3
              rw [hX] at bx
              rw [hZ] at bz
              have HCE := Lib.hid hce
              have u1 := wt_sum (fun q => (HCN.out q).1) f (t - f - 1)
              have u2 := wt_min (fun q => (HCN.out q).1) f (t - f - 1) (by omega)
              rw [show t - f - 1 + 1 = t - f by omega, ← worst_wt, HM.out] at u1 u2
              have u3 : t = f + 2 → M = sumC (costAt d) f (t - f - 1) := fun e => by
                rw [← HM.out, worst_wt, show t - f = 2 by omega]; exact wt_two _ _
              obtain ⟨SS, hSS⟩ : ∃ S, sumC (costAt d) f (t - f - 1) = S := ⟨_, rfl⟩
              obtain ⟨MM, hMM⟩ : ∃ S, minC (costAt d) f (t - f - 1) = S := ⟨_, rfl⟩
              rw [hSS] at u1 u3
              rw [hMM] at u2
              have HSS := Lib.hid hSS
              have HMM := Lib.hid hMM
              have v1 : decide (SS < M) = false := decide_eq_false (by omega)
              have v2 : decide (M < MM) = false := decide_eq_false (by omega)
              have p1 : ¬ (p : Int) ≤ (f : Int) := by omega
              have p2 : ¬ (t : Int) ≤ (p : Int) := by omega
              have p3 : (p : Int) < (d.pts.length : Int) := by omega
              obtain ⟨cp1, cp2⟩ := hcp
              obtain ⟨bx1, bx2⟩ := bx
              obtain ⟨bz1, bz2⟩ := bz
              clear hone hp hX hZ hC hce u1 u2 hSS hMM
              have hways : (t = f + 2 ∧ ((t : Int) == (f : Int) + 2) = true ∧ (M != SS) = false) ∨ (t ≠ f + 2 ∧ ((t : Int) == (f : Int) + 2) = false) := by
                by_cases e : t = f + 2
                · exact .inl ⟨e, beq_iff_eq.2 (by omega), by rw [u3 e]; simp⟩
                · exact .inr ⟨e, beq_eq_false_iff_ne.2 (by omega)⟩
              clear u3
              by_cases hmx : Z ≤ X
              · have m1 : decide (X < 0) = false := decide_eq_false (by omega)
                have m2 : X ≤ M := by omega
                have m3 : (M == C + X) = true := beq_iff_eq.2 (by omega)
                have m4 : 0 ≤ X := by omega
                clear n3
                rcases hways with ⟨e1, e2, e3⟩ | ⟨e1, e2⟩
                · clear e1
                  go_enter Try.func6, Try.ntmps6
                  go_wp2_with (first | (go_at_call 15; refine (ready_any _ d _ (HV.out.below HB0.out)).mono ?_; rintro e w1 ⟨rfl, hb⟩; rw [h1]; have HB1 := Lib.hid (bto HB0.out hb); have B1 := B0.keep hb; have S1 := S0.keep hb; obtain ⟨x0, x1, x2, x3⟩ := id B1; have s0 := S1 0 _ rfl; have s1 := S1 1 _ rfl; have s2 := S1 2 _ rfl; have s3 := S1 3 _ rfl; clear hb HB0 B0 S0) | (go_at_call 16; refine (rAreSome_any _ d _ _ _ (HV.out.below HB1.out) hl1).mono ?_; rintro e w2 ⟨rfl, hb⟩; rw [H2.out]; have HB2 := Lib.hid (bto HB1.out hb); have B2 := B1.keep hb; have S2 := S1.keep hb; obtain ⟨x0, x1, x2, x3⟩ := id B2; have s0 := S2 0 _ rfl; have s1 := S2 1 _ rfl; have s2 := S2 2 _ rfl; have s3 := S2 3 _ rfl; clear hb HB1 B1 S1) | (go_at_call 16; refine (rAreSome_any _ d _ _ _ (HV.out.below HB2.out) hl1).mono ?_; rintro e w3 ⟨rfl, hb⟩; rw [H3.out]; have HB3 := Lib.hid (bto HB2.out hb); have B3 := B2.keep hb; have S3 := S2.keep hb; obtain ⟨x0, x1, x2, x3⟩ := id B3; have s0 := S3 0 _ rfl; have s1 := S3 1 _ rfl; have s2 := S3 2 _ rfl; have s3 := S3 3 _ rfl; clear hb HB2 B2 S2) | (go_at_call 20; refine (worst_any _ d _ _ _ (HV.out.below HB3.out) hl1).mono ?_; rintro e w4 ⟨rfl, hb⟩; rw [HW1.out]; have HB4 := Lib.hid (bto HB3.out hb); have B4 := B3.keep hb; have S4 := S3.keep hb; obtain ⟨x0, x1, x2, x3⟩ := id B4; have s0 := S4 0 _ rfl; have s1 := S4 1 _ rfl; have s2 := S4 2 _ rfl; have s3 := S4 3 _ rfl; clear hb HB3 B3 S3) | (go_at_call 20; refine (worst_any _ d _ _ _ (HV.out.below HB4.out) hl1).mono ?_; rintro e w5 ⟨rfl, hb⟩; rw [HW2.out]; have HB5 := Lib.hid (bto HB4.out hb); have B5 := B4.keep hb; have S5 := S4.keep hb; obtain ⟨x0, x1, x2, x3⟩ := id B5; have s0 := S5 0 _ rfl; have s1 := S5 1 _ rfl; have s2 := S5 2 _ rfl; have s3 := S5 3 _ rfl; clear hb HB4 B4 S4))
                  go_loop [9, 10, 11] (fun al le p => ∃ k : Nat, f + k + 1 ≤ t ∧ p = I ((f : Int) + k + 1) ∧ al = I (sumC (costAt d) f k) ∧ le = I (minC (costAt d) f k)) (fun _ _ p => t - (intOf p).toNat)
                  case atStart => exact ⟨0, by omega, by go_num, rfl, rfl⟩
                  case round =>
                    obtain ⟨k, hk, rfl, rfl, rfl⟩ := hrel
                    have b1 := bd_sum HCN.out f k
                    have b2 := bd_min HCN.out f k
                    obtain ⟨b1a, b1b⟩ := b1
                    obtain ⟨b2a, b2b⟩ := b2
                    by_cases hlt : f + k + 1 < t
                    · obtain ⟨b, o, hbo, hbl, hcell⟩ := HPC.out hpos
                      have hpl : f + k + 1 < d.pts.length := by have := HNP.out; omega
                      have hz := keep_cell HB5.out (hcell _ hpl).2.2
                      have hcost := costAt_at d _ hpl
                      have hcb := HCN.out (f + k + 1)
                      rw [← hcost] at hz
                      have HSU := Lib.hid (show sumC (costAt d) f (k + 1) = sumC (costAt d) f k + costAt d (f + k + 1) from rfl)
                      have HMI := Lib.hid (show minC (costAt d) f (k + 1) = min (minC (costAt d) f k) (costAt d (f + k + 1)) from rfl)
                      obtain ⟨C, hC⟩ : ∃ C, costAt d (f + k + 1) = C := ⟨_, rfl⟩
                      rw [hC] at hz hcb HSU HMI
                      obtain ⟨cb1, cb2⟩ := hcb
                      obtain ⟨SU, hSU⟩ : ∃ S, sumC (costAt d) f k = S := ⟨_, rfl⟩
                      obtain ⟨MI, hMI⟩ : ∃ S, minC (costAt d) f k = S := ⟨_, rfl⟩
                      rw [hSU] at HSU b1a b1b ⊢
                      rw [hMI] at HMI b2a b2b ⊢
                      subst hbo
                      have i1 : ((f : Int) + k + 1) = ((f + k + 1 : Nat) : Int) := by omega
                      have i2 : ((f + k + 1 : Nat) : Int) < (d.pts.length : Int) := by omega
                      rw [i1]
                      clear hcell hcost hC hSU hMI i1
                      by_cases hmn : MI ≤ C
                      · go_wp2_with fail
                        go_round
                        case rel => exact ⟨k + 1, by omega, by go_num, by rw [HSU.out], by rw [HMI.out, show min MI C = MI by omega]⟩
                        case measure => first | (simp [intOf]; done) | (simp [intOf]; omega)
                      · go_wp2_with fail
                        go_round
                        case rel => exact ⟨k + 1, by omega, by go_num, by rw [HSU.out], by rw [HMI.out, show min MI C = C by omega, if_pos (by omega)]⟩
                        case measure => first | (simp [intOf]; done) | (simp [intOf]; omega)
                    · have HK := Lib.hid (show k = t - f - 1 by omega)
                      have i1 : ((f : Int) + k + 1) = (t : Int) := by omega
                      rw [i1, HK.out]
                      rw [HSS.out, HMM.out]
                      obtain ⟨b, o, hbo, hbl, hcell⟩ := HPC.out hpos
                      have hz0 := (hcell _ hpp).2.2
                      rw [HCE.out.symm] at hz0
                      have HZ0 := Lib.hid hz0
                      subst hbo
                      clear hcell hz0
                      go_wp2_with (first | (go_at_call 25; refine (next_any _ d _ _ _ (HV.out.below HB5.out) hl1).mono ?_; rintro e w6 ⟨rfl, hb⟩; rw [HN.out]; have HB6 := Lib.hid (bto HB5.out hb); have B6 := B5.keep hb; have S6 := S5.keep hb; obtain ⟨x0, x1, x2, x3⟩ := id B6; have s0 := S6 0 _ rfl; have s1 := S6 1 _ rfl; have s2 := S6 2 _ rfl; have s3 := S6 3 _ rfl; clear hb HB5 B5 S5) | (go_at_call 20; refine (worst_any _ d _ _ _ (HV.out.below HB6.out) hl1).mono ?_; rintro e w7 ⟨rfl, hb⟩; rw [HX.out]; have HB7 := Lib.hid (bto HB6.out hb); have B7 := B6.keep hb; have S7 := S6.keep hb; obtain ⟨x0, x1, x2, x3⟩ := id B7; have s0 := S7 0 _ rfl; have s1 := S7 1 _ rfl; have s2 := S7 2 _ rfl; have s3 := S7 3 _ rfl; clear hb HB6 B6 S6) | (go_at_call 20; refine (worst_any _ d _ _ _ (HV.out.below HB7.out) hl1).mono ?_; rintro e w8 ⟨rfl, hb⟩; rw [HZ.out]; have HB8 := Lib.hid (bto HB7.out hb); have B8 := B7.keep hb; have S8 := S7.keep hb; obtain ⟨x0, x1, x2, x3⟩ := id B8; have s0 := S8 0 _ rfl; have s1 := S8 1 _ rfl; have s2 := S8 2 _ rfl; have s3 := S8 3 _ rfl; have hz9 := keep_cell HB8.out HZ0.out; clear hb HB7 B7 S7) | (go_at_call 18; refine (works_any _).mono ?_; rintro e w99 ⟨rfl, hb⟩; have HB99 := Lib.hid (bto HB8.out hb); clear hb))
                      go_ret
                      exact ⟨rfl, HB99.out⟩
                · clear e1
                  go_enter Try.func6, Try.ntmps6
                  go_wp2_with (first | (go_at_call 15; refine (ready_any _ d _ (HV.out.below HB0.out)).mono ?_; rintro e w1 ⟨rfl, hb⟩; rw [h1]; have HB1 := Lib.hid (bto HB0.out hb); have B1 := B0.keep hb; have S1 := S0.keep hb; obtain ⟨x0, x1, x2, x3⟩ := id B1; have s0 := S1 0 _ rfl; have s1 := S1 1 _ rfl; have s2 := S1 2 _ rfl; have s3 := S1 3 _ rfl; clear hb HB0 B0 S0) | (go_at_call 16; refine (rAreSome_any _ d _ _ _ (HV.out.below HB1.out) hl1).mono ?_; rintro e w2 ⟨rfl, hb⟩; rw [H2.out]; have HB2 := Lib.hid (bto HB1.out hb); have B2 := B1.keep hb; have S2 := S1.keep hb; obtain ⟨x0, x1, x2, x3⟩ := id B2; have s0 := S2 0 _ rfl; have s1 := S2 1 _ rfl; have s2 := S2 2 _ rfl; have s3 := S2 3 _ rfl; clear hb HB1 B1 S1) | (go_at_call 16; refine (rAreSome_any _ d _ _ _ (HV.out.below HB2.out) hl1).mono ?_; rintro e w3 ⟨rfl, hb⟩; rw [H3.out]; have HB3 := Lib.hid (bto HB2.out hb); have B3 := B2.keep hb; have S3 := S2.keep hb; obtain ⟨x0, x1, x2, x3⟩ := id B3; have s0 := S3 0 _ rfl; have s1 := S3 1 _ rfl; have s2 := S3 2 _ rfl; have s3 := S3 3 _ rfl; clear hb HB2 B2 S2) | (go_at_call 20; refine (worst_any _ d _ _ _ (HV.out.below HB3.out) hl1).mono ?_; rintro e w4 ⟨rfl, hb⟩; rw [HW1.out]; have HB4 := Lib.hid (bto HB3.out hb); have B4 := B3.keep hb; have S4 := S3.keep hb; obtain ⟨x0, x1, x2, x3⟩ := id B4; have s0 := S4 0 _ rfl; have s1 := S4 1 _ rfl; have s2 := S4 2 _ rfl; have s3 := S4 3 _ rfl; clear hb HB3 B3 S3) | (go_at_call 20; refine (worst_any _ d _ _ _ (HV.out.below HB4.out) hl1).mono ?_; rintro e w5 ⟨rfl, hb⟩; rw [HW2.out]; have HB5 := Lib.hid (bto HB4.out hb); have B5 := B4.keep hb; have S5 := S4.keep hb; obtain ⟨x0, x1, x2, x3⟩ := id B5; have s0 := S5 0 _ rfl; have s1 := S5 1 _ rfl; have s2 := S5 2 _ rfl; have s3 := S5 3 _ rfl; clear hb HB4 B4 S4))
                  go_loop [9, 10, 11] (fun al le p => ∃ k : Nat, f + k + 1 ≤ t ∧ p = I ((f : Int) + k + 1) ∧ al = I (sumC (costAt d) f k) ∧ le = I (minC (costAt d) f k)) (fun _ _ p => t - (intOf p).toNat)
                  case atStart => exact ⟨0, by omega, by go_num, rfl, rfl⟩
                  case round =>
                    obtain ⟨k, hk, rfl, rfl, rfl⟩ := hrel
                    have b1 := bd_sum HCN.out f k
                    have b2 := bd_min HCN.out f k
                    obtain ⟨b1a, b1b⟩ := b1
                    obtain ⟨b2a, b2b⟩ := b2
                    by_cases hlt : f + k + 1 < t
                    · obtain ⟨b, o, hbo, hbl, hcell⟩ := HPC.out hpos
                      have hpl : f + k + 1 < d.pts.length := by have := HNP.out; omega
                      have hz := keep_cell HB5.out (hcell _ hpl).2.2
                      have hcost := costAt_at d _ hpl
                      have hcb := HCN.out (f + k + 1)
                      rw [← hcost] at hz
                      have HSU := Lib.hid (show sumC (costAt d) f (k + 1) = sumC (costAt d) f k + costAt d (f + k + 1) from rfl)
                      have HMI := Lib.hid (show minC (costAt d) f (k + 1) = min (minC (costAt d) f k) (costAt d (f + k + 1)) from rfl)
                      obtain ⟨C, hC⟩ : ∃ C, costAt d (f + k + 1) = C := ⟨_, rfl⟩
                      rw [hC] at hz hcb HSU HMI
                      obtain ⟨cb1, cb2⟩ := hcb
                      obtain ⟨SU, hSU⟩ : ∃ S, sumC (costAt d) f k = S := ⟨_, rfl⟩
                      obtain ⟨MI, hMI⟩ : ∃ S, minC (costAt d) f k = S := ⟨_, rfl⟩
                      rw [hSU] at HSU b1a b1b ⊢
                      rw [hMI] at HMI b2a b2b ⊢
                      subst hbo
                      have i1 : ((f : Int) + k + 1) = ((f + k + 1 : Nat) : Int) := by omega
                      have i2 : ((f + k + 1 : Nat) : Int) < (d.pts.length : Int) := by omega
                      rw [i1]
                      clear hcell hcost hC hSU hMI i1
                      by_cases hmn : MI ≤ C
                      · go_wp2_with fail
                        go_round
                        case rel => exact ⟨k + 1, by omega, by go_num, by rw [HSU.out], by rw [HMI.out, show min MI C = MI by omega]⟩
                        case measure => first | (simp [intOf]; done) | (simp [intOf]; omega)
                      · go_wp2_with fail
                        go_round
                        case rel => exact ⟨k + 1, by omega, by go_num, by rw [HSU.out], by rw [HMI.out, show min MI C = C by omega, if_pos (by omega)]⟩
                        case measure => first | (simp [intOf]; done) | (simp [intOf]; omega)
                    · have HK := Lib.hid (show k = t - f - 1 by omega)
                      have i1 : ((f : Int) + k + 1) = (t : Int) := by omega
                      rw [i1, HK.out]
                      rw [HSS.out, HMM.out]
                      obtain ⟨b, o, hbo, hbl, hcell⟩ := HPC.out hpos
                      have hz0 := (hcell _ hpp).2.2
                      rw [HCE.out.symm] at hz0
                      have HZ0 := Lib.hid hz0
                      subst hbo
                      clear hcell hz0
                      go_wp2_with (first | (go_at_call 25; refine (next_any _ d _ _ _ (HV.out.below HB5.out) hl1).mono ?_; rintro e w6 ⟨rfl, hb⟩; rw [HN.out]; have HB6 := Lib.hid (bto HB5.out hb); have B6 := B5.keep hb; have S6 := S5.keep hb; obtain ⟨x0, x1, x2, x3⟩ := id B6; have s0 := S6 0 _ rfl; have s1 := S6 1 _ rfl; have s2 := S6 2 _ rfl; have s3 := S6 3 _ rfl; clear hb HB5 B5 S5) | (go_at_call 20; refine (worst_any _ d _ _ _ (HV.out.below HB6.out) hl1).mono ?_; rintro e w7 ⟨rfl, hb⟩; rw [HX.out]; have HB7 := Lib.hid (bto HB6.out hb); have B7 := B6.keep hb; have S7 := S6.keep hb; obtain ⟨x0, x1, x2, x3⟩ := id B7; have s0 := S7 0 _ rfl; have s1 := S7 1 _ rfl; have s2 := S7 2 _ rfl; have s3 := S7 3 _ rfl; clear hb HB6 B6 S6) | (go_at_call 20; refine (worst_any _ d _ _ _ (HV.out.below HB7.out) hl1).mono ?_; rintro e w8 ⟨rfl, hb⟩; rw [HZ.out]; have HB8 := Lib.hid (bto HB7.out hb); have B8 := B7.keep hb; have S8 := S7.keep hb; obtain ⟨x0, x1, x2, x3⟩ := id B8; have s0 := S8 0 _ rfl; have s1 := S8 1 _ rfl; have s2 := S8 2 _ rfl; have s3 := S8 3 _ rfl; have hz9 := keep_cell HB8.out HZ0.out; clear hb HB7 B7 S7) | (go_at_call 18; refine (works_any _).mono ?_; rintro e w99 ⟨rfl, hb⟩; have HB99 := Lib.hid (bto HB8.out hb); clear hb))
                      go_ret
                      exact ⟨rfl, HB99.out⟩
              · have m1 : decide (Z < 0) = false := decide_eq_false (by omega)
                have m2 : Z ≤ M := by omega
                have m3 : (M == C + Z) = true := beq_iff_eq.2 (by omega)
                have m4 : 0 ≤ Z := by omega
                clear n3
                rcases hways with ⟨e1, e2, e3⟩ | ⟨e1, e2⟩
                · clear e1
                  go_enter Try.func6, Try.ntmps6
                  go_wp2_with (first | (go_at_call 15; refine (ready_any _ d _ (HV.out.below HB0.out)).mono ?_; rintro e w1 ⟨rfl, hb⟩; rw [h1]; have HB1 := Lib.hid (bto HB0.out hb); have B1 := B0.keep hb; have S1 := S0.keep hb; obtain ⟨x0, x1, x2, x3⟩ := id B1; have s0 := S1 0 _ rfl; have s1 := S1 1 _ rfl; have s2 := S1 2 _ rfl; have s3 := S1 3 _ rfl; clear hb HB0 B0 S0) | (go_at_call 16; refine (rAreSome_any _ d _ _ _ (HV.out.below HB1.out) hl1).mono ?_; rintro e w2 ⟨rfl, hb⟩; rw [H2.out]; have HB2 := Lib.hid (bto HB1.out hb); have B2 := B1.keep hb; have S2 := S1.keep hb; obtain ⟨x0, x1, x2, x3⟩ := id B2; have s0 := S2 0 _ rfl; have s1 := S2 1 _ rfl; have s2 := S2 2 _ rfl; have s3 := S2 3 _ rfl; clear hb HB1 B1 S1) | (go_at_call 16; refine (rAreSome_any _ d _ _ _ (HV.out.below HB2.out) hl1).mono ?_; rintro e w3 ⟨rfl, hb⟩; rw [H3.out]; have HB3 := Lib.hid (bto HB2.out hb); have B3 := B2.keep hb; have S3 := S2.keep hb; obtain ⟨x0, x1, x2, x3⟩ := id B3; have s0 := S3 0 _ rfl; have s1 := S3 1 _ rfl; have s2 := S3 2 _ rfl; have s3 := S3 3 _ rfl; clear hb HB2 B2 S2) | (go_at_call 20; refine (worst_any _ d _ _ _ (HV.out.below HB3.out) hl1).mono ?_; rintro e w4 ⟨rfl, hb⟩; rw [HW1.out]; have HB4 := Lib.hid (bto HB3.out hb); have B4 := B3.keep hb; have S4 := S3.keep hb; obtain ⟨x0, x1, x2, x3⟩ := id B4; have s0 := S4 0 _ rfl; have s1 := S4 1 _ rfl; have s2 := S4 2 _ rfl; have s3 := S4 3 _ rfl; clear hb HB3 B3 S3) | (go_at_call 20; refine (worst_any _ d _ _ _ (HV.out.below HB4.out) hl1).mono ?_; rintro e w5 ⟨rfl, hb⟩; rw [HW2.out]; have HB5 := Lib.hid (bto HB4.out hb); have B5 := B4.keep hb; have S5 := S4.keep hb; obtain ⟨x0, x1, x2, x3⟩ := id B5; have s0 := S5 0 _ rfl; have s1 := S5 1 _ rfl; have s2 := S5 2 _ rfl; have s3 := S5 3 _ rfl; clear hb HB4 B4 S4))
                  go_loop [9, 10, 11] (fun al le p => ∃ k : Nat, f + k + 1 ≤ t ∧ p = I ((f : Int) + k + 1) ∧ al = I (sumC (costAt d) f k) ∧ le = I (minC (costAt d) f k)) (fun _ _ p => t - (intOf p).toNat)
                  case atStart => exact ⟨0, by omega, by go_num, rfl, rfl⟩
                  case round =>
                    obtain ⟨k, hk, rfl, rfl, rfl⟩ := hrel
                    have b1 := bd_sum HCN.out f k
                    have b2 := bd_min HCN.out f k
                    obtain ⟨b1a, b1b⟩ := b1
                    obtain ⟨b2a, b2b⟩ := b2
                    by_cases hlt : f + k + 1 < t
                    · obtain ⟨b, o, hbo, hbl, hcell⟩ := HPC.out hpos
                      have hpl : f + k + 1 < d.pts.length := by have := HNP.out; omega
                      have hz := keep_cell HB5.out (hcell _ hpl).2.2
                      have hcost := costAt_at d _ hpl
                      have hcb := HCN.out (f + k + 1)
                      rw [← hcost] at hz
                      have HSU := Lib.hid (show sumC (costAt d) f (k + 1) = sumC (costAt d) f k + costAt d (f + k + 1) from rfl)
                      have HMI := Lib.hid (show minC (costAt d) f (k + 1) = min (minC (costAt d) f k) (costAt d (f + k + 1)) from rfl)
                      obtain ⟨C, hC⟩ : ∃ C, costAt d (f + k + 1) = C := ⟨_, rfl⟩
                      rw [hC] at hz hcb HSU HMI
                      obtain ⟨cb1, cb2⟩ := hcb
                      obtain ⟨SU, hSU⟩ : ∃ S, sumC (costAt d) f k = S := ⟨_, rfl⟩
                      obtain ⟨MI, hMI⟩ : ∃ S, minC (costAt d) f k = S := ⟨_, rfl⟩
                      rw [hSU] at HSU b1a b1b ⊢
                      rw [hMI] at HMI b2a b2b ⊢
                      subst hbo
                      have i1 : ((f : Int) + k + 1) = ((f + k + 1 : Nat) : Int) := by omega
                      have i2 : ((f + k + 1 : Nat) : Int) < (d.pts.length : Int) := by omega
                      rw [i1]
                      clear hcell hcost hC hSU hMI i1
                      by_cases hmn : MI ≤ C
                      · go_wp2_with fail
                        go_round
                        case rel => exact ⟨k + 1, by omega, by go_num, by rw [HSU.out], by rw [HMI.out, show min MI C = MI by omega]⟩
                        case measure => first | (simp [intOf]; done) | (simp [intOf]; omega)
                      · go_wp2_with fail
                        go_round
                        case rel => exact ⟨k + 1, by omega, by go_num, by rw [HSU.out], by rw [HMI.out, show min MI C = C by omega, if_pos (by omega)]⟩
                        case measure => first | (simp [intOf]; done) | (simp [intOf]; omega)
                    · have HK := Lib.hid (show k = t - f - 1 by omega)
                      have i1 : ((f : Int) + k + 1) = (t : Int) := by omega
                      rw [i1, HK.out]
                      rw [HSS.out, HMM.out]
                      obtain ⟨b, o, hbo, hbl, hcell⟩ := HPC.out hpos
                      have hz0 := (hcell _ hpp).2.2
                      rw [HCE.out.symm] at hz0
                      have HZ0 := Lib.hid hz0
                      subst hbo
                      clear hcell hz0
                      go_wp2_with (first | (go_at_call 25; refine (next_any _ d _ _ _ (HV.out.below HB5.out) hl1).mono ?_; rintro e w6 ⟨rfl, hb⟩; rw [HN.out]; have HB6 := Lib.hid (bto HB5.out hb); have B6 := B5.keep hb; have S6 := S5.keep hb; obtain ⟨x0, x1, x2, x3⟩ := id B6; have s0 := S6 0 _ rfl; have s1 := S6 1 _ rfl; have s2 := S6 2 _ rfl; have s3 := S6 3 _ rfl; clear hb HB5 B5 S5) | (go_at_call 20; refine (worst_any _ d _ _ _ (HV.out.below HB6.out) hl1).mono ?_; rintro e w7 ⟨rfl, hb⟩; rw [HX.out]; have HB7 := Lib.hid (bto HB6.out hb); have B7 := B6.keep hb; have S7 := S6.keep hb; obtain ⟨x0, x1, x2, x3⟩ := id B7; have s0 := S7 0 _ rfl; have s1 := S7 1 _ rfl; have s2 := S7 2 _ rfl; have s3 := S7 3 _ rfl; clear hb HB6 B6 S6) | (go_at_call 20; refine (worst_any _ d _ _ _ (HV.out.below HB7.out) hl1).mono ?_; rintro e w8 ⟨rfl, hb⟩; rw [HZ.out]; have HB8 := Lib.hid (bto HB7.out hb); have B8 := B7.keep hb; have S8 := S7.keep hb; obtain ⟨x0, x1, x2, x3⟩ := id B8; have s0 := S8 0 _ rfl; have s1 := S8 1 _ rfl; have s2 := S8 2 _ rfl; have s3 := S8 3 _ rfl; have hz9 := keep_cell HB8.out HZ0.out; clear hb HB7 B7 S7) | (go_at_call 18; refine (works_any _).mono ?_; rintro e w99 ⟨rfl, hb⟩; have HB99 := Lib.hid (bto HB8.out hb); clear hb))
                      go_ret
                      exact ⟨rfl, HB99.out⟩
                · clear e1
                  go_enter Try.func6, Try.ntmps6
                  go_wp2_with (first | (go_at_call 15; refine (ready_any _ d _ (HV.out.below HB0.out)).mono ?_; rintro e w1 ⟨rfl, hb⟩; rw [h1]; have HB1 := Lib.hid (bto HB0.out hb); have B1 := B0.keep hb; have S1 := S0.keep hb; obtain ⟨x0, x1, x2, x3⟩ := id B1; have s0 := S1 0 _ rfl; have s1 := S1 1 _ rfl; have s2 := S1 2 _ rfl; have s3 := S1 3 _ rfl; clear hb HB0 B0 S0) | (go_at_call 16; refine (rAreSome_any _ d _ _ _ (HV.out.below HB1.out) hl1).mono ?_; rintro e w2 ⟨rfl, hb⟩; rw [H2.out]; have HB2 := Lib.hid (bto HB1.out hb); have B2 := B1.keep hb; have S2 := S1.keep hb; obtain ⟨x0, x1, x2, x3⟩ := id B2; have s0 := S2 0 _ rfl; have s1 := S2 1 _ rfl; have s2 := S2 2 _ rfl; have s3 := S2 3 _ rfl; clear hb HB1 B1 S1) | (go_at_call 16; refine (rAreSome_any _ d _ _ _ (HV.out.below HB2.out) hl1).mono ?_; rintro e w3 ⟨rfl, hb⟩; rw [H3.out]; have HB3 := Lib.hid (bto HB2.out hb); have B3 := B2.keep hb; have S3 := S2.keep hb; obtain ⟨x0, x1, x2, x3⟩ := id B3; have s0 := S3 0 _ rfl; have s1 := S3 1 _ rfl; have s2 := S3 2 _ rfl; have s3 := S3 3 _ rfl; clear hb HB2 B2 S2) | (go_at_call 20; refine (worst_any _ d _ _ _ (HV.out.below HB3.out) hl1).mono ?_; rintro e w4 ⟨rfl, hb⟩; rw [HW1.out]; have HB4 := Lib.hid (bto HB3.out hb); have B4 := B3.keep hb; have S4 := S3.keep hb; obtain ⟨x0, x1, x2, x3⟩ := id B4; have s0 := S4 0 _ rfl; have s1 := S4 1 _ rfl; have s2 := S4 2 _ rfl; have s3 := S4 3 _ rfl; clear hb HB3 B3 S3) | (go_at_call 20; refine (worst_any _ d _ _ _ (HV.out.below HB4.out) hl1).mono ?_; rintro e w5 ⟨rfl, hb⟩; rw [HW2.out]; have HB5 := Lib.hid (bto HB4.out hb); have B5 := B4.keep hb; have S5 := S4.keep hb; obtain ⟨x0, x1, x2, x3⟩ := id B5; have s0 := S5 0 _ rfl; have s1 := S5 1 _ rfl; have s2 := S5 2 _ rfl; have s3 := S5 3 _ rfl; clear hb HB4 B4 S4))
                  go_loop [9, 10, 11] (fun al le p => ∃ k : Nat, f + k + 1 ≤ t ∧ p = I ((f : Int) + k + 1) ∧ al = I (sumC (costAt d) f k) ∧ le = I (minC (costAt d) f k)) (fun _ _ p => t - (intOf p).toNat)
                  case atStart => exact ⟨0, by omega, by go_num, rfl, rfl⟩
                  case round =>
                    obtain ⟨k, hk, rfl, rfl, rfl⟩ := hrel
                    have b1 := bd_sum HCN.out f k
                    have b2 := bd_min HCN.out f k
                    obtain ⟨b1a, b1b⟩ := b1
                    obtain ⟨b2a, b2b⟩ := b2
                    by_cases hlt : f + k + 1 < t
                    · obtain ⟨b, o, hbo, hbl, hcell⟩ := HPC.out hpos
                      have hpl : f + k + 1 < d.pts.length := by have := HNP.out; omega
                      have hz := keep_cell HB5.out (hcell _ hpl).2.2
                      have hcost := costAt_at d _ hpl
                      have hcb := HCN.out (f + k + 1)
                      rw [← hcost] at hz
                      have HSU := Lib.hid (show sumC (costAt d) f (k + 1) = sumC (costAt d) f k + costAt d (f + k + 1) from rfl)
                      have HMI := Lib.hid (show minC (costAt d) f (k + 1) = min (minC (costAt d) f k) (costAt d (f + k + 1)) from rfl)
                      obtain ⟨C, hC⟩ : ∃ C, costAt d (f + k + 1) = C := ⟨_, rfl⟩
                      rw [hC] at hz hcb HSU HMI
                      obtain ⟨cb1, cb2⟩ := hcb
                      obtain ⟨SU, hSU⟩ : ∃ S, sumC (costAt d) f k = S := ⟨_, rfl⟩
                      obtain ⟨MI, hMI⟩ : ∃ S, minC (costAt d) f k = S := ⟨_, rfl⟩
                      rw [hSU] at HSU b1a b1b ⊢
                      rw [hMI] at HMI b2a b2b ⊢
                      subst hbo
                      have i1 : ((f : Int) + k + 1) = ((f + k + 1 : Nat) : Int) := by omega
                      have i2 : ((f + k + 1 : Nat) : Int) < (d.pts.length : Int) := by omega
                      rw [i1]
                      clear hcell hcost hC hSU hMI i1
                      by_cases hmn : MI ≤ C
                      · go_wp2_with fail
                        go_round
                        case rel => exact ⟨k + 1, by omega, by go_num, by rw [HSU.out], by rw [HMI.out, show min MI C = MI by omega]⟩
                        case measure => first | (simp [intOf]; done) | (simp [intOf]; omega)
                      · go_wp2_with fail
                        go_round
                        case rel => exact ⟨k + 1, by omega, by go_num, by rw [HSU.out], by rw [HMI.out, show min MI C = C by omega, if_pos (by omega)]⟩
                        case measure => first | (simp [intOf]; done) | (simp [intOf]; omega)
                    · have HK := Lib.hid (show k = t - f - 1 by omega)
                      have i1 : ((f : Int) + k + 1) = (t : Int) := by omega
                      rw [i1, HK.out]
                      rw [HSS.out, HMM.out]
                      obtain ⟨b, o, hbo, hbl, hcell⟩ := HPC.out hpos
                      have hz0 := (hcell _ hpp).2.2
                      rw [HCE.out.symm] at hz0
                      have HZ0 := Lib.hid hz0
                      subst hbo
                      clear hcell hz0
                      go_wp2_with (first | (go_at_call 25; refine (next_any _ d _ _ _ (HV.out.below HB5.out) hl1).mono ?_; rintro e w6 ⟨rfl, hb⟩; rw [HN.out]; have HB6 := Lib.hid (bto HB5.out hb); have B6 := B5.keep hb; have S6 := S5.keep hb; obtain ⟨x0, x1, x2, x3⟩ := id B6; have s0 := S6 0 _ rfl; have s1 := S6 1 _ rfl; have s2 := S6 2 _ rfl; have s3 := S6 3 _ rfl; clear hb HB5 B5 S5) | (go_at_call 20; refine (worst_any _ d _ _ _ (HV.out.below HB6.out) hl1).mono ?_; rintro e w7 ⟨rfl, hb⟩; rw [HX.out]; have HB7 := Lib.hid (bto HB6.out hb); have B7 := B6.keep hb; have S7 := S6.keep hb; obtain ⟨x0, x1, x2, x3⟩ := id B7; have s0 := S7 0 _ rfl; have s1 := S7 1 _ rfl; have s2 := S7 2 _ rfl; have s3 := S7 3 _ rfl; clear hb HB6 B6 S6) | (go_at_call 20; refine (worst_any _ d _ _ _ (HV.out.below HB7.out) hl1).mono ?_; rintro e w8 ⟨rfl, hb⟩; rw [HZ.out]; have HB8 := Lib.hid (bto HB7.out hb); have B8 := B7.keep hb; have S8 := S7.keep hb; obtain ⟨x0, x1, x2, x3⟩ := id B8; have s0 := S8 0 _ rfl; have s1 := S8 1 _ rfl; have s2 := S8 2 _ rfl; have s3 := S8 3 _ rfl; have hz9 := keep_cell HB8.out HZ0.out; clear hb HB7 B7 S7) | (go_at_call 18; refine (works_any _).mono ?_; rintro e w99 ⟨rfl, hb⟩; have HB99 := Lib.hid (bto HB8.out hb); clear hb))
                      go_ret
                      exact ⟨rfl, HB99.out⟩
end Go.Proofs.Ytbddaemekgflmaa
