/- Walk of the reference's lossOf. -/
import Derived.Test.YtbddaemekgflmaaW39
namespace Go.Proofs.Ytbddaemekgflmaa
open Go.RowKit Go.Sort

set_option maxRecDepth 20000 in
set_option maxHeartbeats 4000000 in
theorem lossOf_any (v : Value) (d : DLine) (f t : Nat) (w : World) (hv : LineAt w v d) (hvd : valid d = true) (hcm : calm d.pts) (hft : f ≤ t) (ht : t < d.pts.length) :
    Calls Try.prog 79 #[v, I f, I t] w fun e w' => e = .returned (.agg #[I (lossP d f t).1, I (lossP d f t).2]) ∧ Below w.heap.size w w' := by
  have HV := Lib.hid hv
  have hn7 := (valid_spec hvd).1
  have hpn := (valid_spec hvd).2.1
  have hl1 : d.odds.length ≤ 1000 := by omega
  have hl2 : d.pts.length ≤ 1000 := by omega
  have hf : f < d.pts.length := by omega
  obtain ⟨pv, ov, rfl, hpp, ho⟩ := hv
  have hb0 : ∀ x y, Below w.heap.size w ((w.alloc x).alloc y) := fun x y => ((Below.refl _ _).alloc (Nat.le_refl _) _).alloc (by simp) _
  obtain ⟨L, hL⟩ : ∃ L, loSuf d.pts f = L := ⟨_, rfl⟩
  obtain ⟨H, hH⟩ : ∃ H, hiPre d.pts (f + 1) = H := ⟨_, rfl⟩
  have hLH := calm_flow hvd hcm f hf
  have b1 := loSuf_bd hvd (d.pts.length - f) f (by omega)
  have b2 := hiPre_bd hvd (f + 1)
  have HRD := Lib.hid (fun n => loss_round hvd hcm f t hft ht n)
  have HF := Lib.hid (show flowAt d f = (L, H) by unfold flowAt; rw [hL, hH])
  have HVS := Lib.hid (fun n (h0 : L ≤ n) (h1 : n ≤ H) => setFlow_valid hvd f n n (by omega) (Int.le_refl _) (by omega))
  have HCS := Lib.hid (fun n (h0 : L ≤ n) (h1 : n ≤ H) => (calm_setFlow hvd hcm f hf n (by
      have := ((loSuf_le d.pts f (by omega) n).1 (by omega)).2 f (Nat.le_refl _) hf
      exact this) (by
      have := ((hiPre_all d.pts (f + 1) (by omega) n).1 (by omega)).2 f (by omega)
      exact this)).2 ⟨by omega, by omega⟩)
  obtain ⟨M, hM⟩ : ∃ M, (if f = t then (0 : Int) else max 0 (loSuf d.pts f - hiPre d.pts (t + 1))) = M := ⟨_, rfl⟩
  obtain ⟨X, hX⟩ : ∃ X : Int → Int, (fun n => if f = t then (0 : Int) else n - loSuf d.pts t) = X := ⟨_, rfl⟩
  have HX1 := Lib.hid (show ∀ n, X (n - 1) ≤ X n by intro n; rw [← hX]; simp only; split <;> omega)
  have HLP := Lib.hid (show lossP d f t = (M, X H) by
    unfold lossP
    rw [← hM, ← hX, ← hH]
    split
    · rfl
    · rfl)
  have HRD := Lib.hid (show ∀ n, L ≤ n → n ≤ H → ∃ a b : Int, flowAt (setFlow d f n n) t = (a, b) ∧ (0 ≤ a ∧ a ≤ 99 ∧ 0 ≤ b ∧ b ≤ 99) ∧ M ≤ n - b ∧ (n = L → M = n - b) ∧ X n = n - a by
    intro n h0 h1
    obtain ⟨a, b, M', X', e1, e2, e3, e4, e5, e6, e7⟩ := HRD.out n (by omega) (by omega)
    rw [hM] at e6
    subst e6
    refine ⟨a, b, e1, e2, e3, fun h => e4 (by omega), ?_⟩
    rw [← e5, e7, ← hX])
  rw [hL] at hLH b1
  rw [hH] at hLH b2
  obtain ⟨b1a, b1b⟩ := b1
  obtain ⟨b2a, b2b⟩ := b2
  have HVD := Lib.hid hvd
  have HCM := Lib.hid hcm
  have B0 := (((Box2.new w pv ov 25).old (.cells #[I 0, I 0] 34))).old (.cells #[I 0, I 0] 34)
  have R0 := ((Box2.new (w.alloc (.cells #[pv, ov] 25)) (I 0) (I 0) 34).at_ (show _ = w.heap.size + 1 by simp)).old (.cells #[I 0, I 0] 34)
  have O0 := (Box2.new ((w.alloc (.cells #[pv, ov] 25)).alloc (.cells #[I 0, I 0] 34)) (I 0) (I 0) 34).at_ (show _ = w.heap.size + 2 by simp)
  have HBW := Lib.hid ((hb0 (.cells #[pv, ov] 25) (.cells #[I 0, I 0] 34)).alloc (by simp; omega) (.cells #[I 0, I 0] 34))
  obtain ⟨x0, x1, x2, x3⟩ := id B0
  clear hpp ho hvd hcm hL hH hM hX hpn hn7
  go_enter Try.func79, Try.ntmps79
  go_wp2_with (go_at_call 77; refine (flowOf_any _ d f _ (HV.out.below HBW.out) HVD.out HCM.out hf).mono ?_; rintro e w1 ⟨rfl, hb⟩; rw [HF.out]; have HW1 := Lib.hid (bto HBW.out hb); have HB1 := Lib.hid (B0.keep hb); have HR1 := Lib.hid (R0.keep hb); have HO1 := Lib.hid (O0.keep hb); clear hb B0 R0 O0)
  clear x0 x1 x2 x3
  obtain ⟨bs, hbs⟩ : ∃ bs, w1.heap.size = bs := ⟨_, rfl⟩
  have hbs2 := HO1.out.lt
  have HS2 := Lib.hid ((Box2.new w1 (I L) (I H) 34).at_ hbs)
  have HB2 := Lib.hid (HB1.out.old (.cells #[I L, I H] 34))
  have HR2 := Lib.hid (HR1.out.old (.cells #[I L, I H] 34))
  have HO2 := Lib.hid (HO1.out.old (.cells #[I L, I H] 34))
  have HW2 := Lib.hid (HW1.out.alloc HW1.out.size (.cells #[I L, I H] 34))
  rw [hbs] at hbs2
  rw [hbs]
  clear HB1 HR1 HO1
  go_loopw [9] (fun i wr => ∃ n o1 o2 : Int, L ≤ n ∧ n ≤ H + 1 ∧ i = I n ∧ Hid ((n = L ∧ o1 = 0 ∧ o2 = 0) ∨ (L < n ∧ o1 = M ∧ o2 = X (n - 1))) ∧ Hid (Box2 wr bs (I L) (I H)) ∧ Hid (Box2 wr w.heap.size pv ov) ∧ Hid (Box2 wr (w.heap.size + 1) (I 0) (I 0)) ∧ Hid (Box2 wr (w.heap.size + 2) (I o1) (I o2)) ∧ Hid (Below w.heap.size w wr)) (fun i _ => (H + 1 - intOf i).toNat)
  case atStart => exact ⟨L, 0, 0, Int.le_refl _, by omega, rfl, Lib.hid (.inl ⟨rfl, rfl, rfl⟩), HS2, HB2, HR2, HO2, HW2⟩
  case round =>
    clear HS2 HB2 HR2 HO2 HW2 HW1 hbs
    obtain ⟨n, o1, o2, hn1, hn2, rfl, hst, HS, HB, HR, HO, HW⟩ := hrel
    obtain ⟨x0, x1, x2, x3⟩ := id HB.out
    obtain ⟨s0, s1, s2, s3⟩ := id HS.out
    by_cases hlt : n ≤ H
    · obtain ⟨a, b, hab, ⟨ha0, ha1, hb0', hb1'⟩, hm1, hm2, hx⟩ := HRD.out n hn1 hlt
      have HAB := Lib.hid hab
      have HM2 := Lib.hid hm2
      have HXE := Lib.hid hx
      have hl3 : (setFlow d f n n).odds.length ≤ 1000 := by rw [(setFlow_len d f n n).2]; exact hl1
      have ht2 : t < (setFlow d f n n).pts.length := by rw [(setFlow_len d f n n).1]; exact ht
      clear hab hm2 hx
      have lO := HO.out.lt
      have lR := HR.out.lt
      by_cases hfirst : n = L
      · have HM3 := Lib.hid (HM2.out hfirst)
        have hq : (n == L) = true := by simp [hfirst]
        have HFI := Lib.hid hfirst
        clear hfirst
        go_wp2_with (first | (go_at_call 86; refine (set_any _ d f n _ (HV.out.below HW.out) hl1 hl2 hf).mono ?_; rintro e w3 ⟨v', rfl, hown, hb⟩; have HL3 := Lib.hid hown.line; have HW3 := Lib.hid (bto HW.out hb); have HS3 := Lib.hid (HS.out.keep hb); have HB3 := Lib.hid (HB.out.keep hb); have HR3 := Lib.hid (HR.out.keep hb); have HO3 := Lib.hid (HO.out.keep hb); clear hb hown) | (go_at_call 77; refine (flowOf_any _ (setFlow d f n n) t _ HL3.out (HVS.out n hn1 hlt) (HCS.out n hn1 hlt) ht2).mono ?_; rintro e w4 ⟨rfl, hb⟩; rw [HAB.out]; have HW4 := Lib.hid (bto HW3.out hb); have HS4 := Lib.hid (HS3.out.keep hb); have HB4 := Lib.hid (HB3.out.keep hb); have HR4 := Lib.hid (HR3.out.keep hb); have HO4 := Lib.hid (HO3.out.keep hb); obtain ⟨s0, s1, s2, s3⟩ := id HS4.out; obtain ⟨z0, z1, z2, z3⟩ := id HO4.out; have ls := HS4.out.lt; have lo := HO4.out.lt; clear hb))
        go_roundw
        case rel => exact ⟨n + 1, n - b, n - a, by omega, by omega, by go_num, Lib.hid (.inr ⟨by omega, HM3.out.symm, by rw [show n + 1 - 1 = n by omega]; exact HXE.out.symm⟩), Lib.hid (((((HS4.out.other _ _ (by show w.heap.size + 2 ≠ bs; omega)).other _ _ (by show w.heap.size + 2 ≠ bs; omega)).other _ _ (by show w.heap.size + 2 ≠ bs; omega)).other _ _ (by show w.heap.size + 2 ≠ bs; omega)).old _), Lib.hid (((((HB4.out.other _ _ (by show w.heap.size + 2 ≠ _; omega)).other _ _ (by show w.heap.size + 2 ≠ _; omega)).other _ _ (by show w.heap.size + 2 ≠ _; omega)).other _ _ (by show w.heap.size + 2 ≠ _; omega)).old _), Lib.hid (((((HR4.out.other _ _ (by show w.heap.size + 2 ≠ _; omega)).other _ _ (by show w.heap.size + 2 ≠ _; omega)).other _ _ (by show w.heap.size + 2 ≠ _; omega)).other _ _ (by show w.heap.size + 2 ≠ _; omega)).old _), Lib.hid (((((HO4.out.set0 _).set1 _).set0 _).set1 _).old _), Lib.hid (((((HW4.out.setCell (p := ⟨w.heap.size + 2, 0, none⟩) (by simp) _).setCell (p := ⟨w.heap.size + 2, 1, none⟩) (by simp) _).setCell (p := ⟨w.heap.size + 2, 0, none⟩) (by simp) _).setCell (p := ⟨w.heap.size + 2, 1, none⟩) (by simp) _).alloc (by have := HW4.out.size; simp; omega) _)⟩
        case measure => first | (simp [intOf]; done) | (simp [intOf]; omega)
      · obtain ⟨e1, e2, e3⟩ : L < n ∧ o1 = M ∧ o2 = X (n - 1) := by
          rcases hst.out with h | h
          · exact absurd h.1 hfirst
          · exact h
        have hmx : o2 ≤ n - a := by rw [e3, ← HXE.out]; exact HX1.out n
        have hmo : o1 ≤ n - b := by rw [e2]; exact hm1
        have HE2 := Lib.hid e2
        have hq : (n == L) = false := by simp [hfirst]
        clear hfirst e2 e3
        by_cases hx2 : o2 < n - a
        · skip
          go_wp2_with (first | (go_at_call 86; refine (set_any _ d f n _ (HV.out.below HW.out) hl1 hl2 hf).mono ?_; rintro e w3 ⟨v', rfl, hown, hb⟩; have HL3 := Lib.hid hown.line; have HW3 := Lib.hid (bto HW.out hb); have HS3 := Lib.hid (HS.out.keep hb); have HB3 := Lib.hid (HB.out.keep hb); have HR3 := Lib.hid (HR.out.keep hb); have HO3 := Lib.hid (HO.out.keep hb); clear hb hown) | (go_at_call 77; refine (flowOf_any _ (setFlow d f n n) t _ HL3.out (HVS.out n hn1 hlt) (HCS.out n hn1 hlt) ht2).mono ?_; rintro e w4 ⟨rfl, hb⟩; rw [HAB.out]; have HW4 := Lib.hid (bto HW3.out hb); have HS4 := Lib.hid (HS3.out.keep hb); have HB4 := Lib.hid (HB3.out.keep hb); have HR4 := Lib.hid (HR3.out.keep hb); have HO4 := Lib.hid (HO3.out.keep hb); obtain ⟨s0, s1, s2, s3⟩ := id HS4.out; obtain ⟨z0, z1, z2, z3⟩ := id HO4.out; have ls := HS4.out.lt; have lo := HO4.out.lt; clear hb))
          go_roundw
          case rel => exact ⟨n + 1, o1, n - a, by omega, by omega, by go_num, Lib.hid (.inr ⟨by omega, HE2.out, by rw [show n + 1 - 1 = n by omega]; exact HXE.out.symm⟩), Lib.hid (((HS4.out.other _ _ (by show w.heap.size + 2 ≠ bs; omega)).other _ _ (by show w.heap.size + 2 ≠ bs; omega)).old _), Lib.hid (((HB4.out.other _ _ (by show w.heap.size + 2 ≠ _; omega)).other _ _ (by show w.heap.size + 2 ≠ _; omega)).old _), Lib.hid (((HR4.out.other _ _ (by show w.heap.size + 2 ≠ _; omega)).other _ _ (by show w.heap.size + 2 ≠ _; omega)).old _), Lib.hid (((HO4.out.set0 _).set1 _).old _), Lib.hid (((HW4.out.setCell (p := ⟨w.heap.size + 2, 0, none⟩) (by simp) _).setCell (p := ⟨w.heap.size + 2, 1, none⟩) (by simp) _).alloc (by have := HW4.out.size; simp; omega) _)⟩
          case measure => first | (simp [intOf]; done) | (simp [intOf]; omega)
        · have HMX := Lib.hid (show o2 = n - a by omega)
          go_wp2_with (first | (go_at_call 86; refine (set_any _ d f n _ (HV.out.below HW.out) hl1 hl2 hf).mono ?_; rintro e w3 ⟨v', rfl, hown, hb⟩; have HL3 := Lib.hid hown.line; have HW3 := Lib.hid (bto HW.out hb); have HS3 := Lib.hid (HS.out.keep hb); have HB3 := Lib.hid (HB.out.keep hb); have HR3 := Lib.hid (HR.out.keep hb); have HO3 := Lib.hid (HO.out.keep hb); clear hb hown) | (go_at_call 77; refine (flowOf_any _ (setFlow d f n n) t _ HL3.out (HVS.out n hn1 hlt) (HCS.out n hn1 hlt) ht2).mono ?_; rintro e w4 ⟨rfl, hb⟩; rw [HAB.out]; have HW4 := Lib.hid (bto HW3.out hb); have HS4 := Lib.hid (HS3.out.keep hb); have HB4 := Lib.hid (HB3.out.keep hb); have HR4 := Lib.hid (HR3.out.keep hb); have HO4 := Lib.hid (HO3.out.keep hb); obtain ⟨s0, s1, s2, s3⟩ := id HS4.out; obtain ⟨z0, z1, z2, z3⟩ := id HO4.out; have ls := HS4.out.lt; have lo := HO4.out.lt; clear hb))
          go_roundw
          case rel => exact ⟨n + 1, o1, o2, by omega, by omega, by go_num, Lib.hid (.inr ⟨by omega, HE2.out, by rw [show n + 1 - 1 = n by omega]; exact (by rw [HXE.out]; exact HMX.out)⟩), Lib.hid (((HS4.out.other _ _ (by show w.heap.size + 2 ≠ bs; omega)).other _ _ (by show w.heap.size + 2 ≠ bs; omega)).old _), Lib.hid (((HB4.out.other _ _ (by show w.heap.size + 2 ≠ _; omega)).other _ _ (by show w.heap.size + 2 ≠ _; omega)).old _), Lib.hid (((HR4.out.other _ _ (by show w.heap.size + 2 ≠ _; omega)).other _ _ (by show w.heap.size + 2 ≠ _; omega)).old _), Lib.hid (((HO4.out.set0 _).set1 _).old _), Lib.hid (((HW4.out.setCell (p := ⟨w.heap.size + 2, 0, none⟩) (by simp) _).setCell (p := ⟨w.heap.size + 2, 1, none⟩) (by simp) _).alloc (by have := HW4.out.size; simp; omega) _)⟩
          case measure => first | (simp [intOf]; done) | (simp [intOf]; omega)
    · obtain ⟨rfl⟩ : n = H + 1 := by omega
      obtain ⟨e1, e2, e3⟩ : L < H + 1 ∧ o1 = M ∧ o2 = X (H + 1 - 1) := by
        rcases hst.out with h | h
        · omega
        · exact h
      rw [show H + 1 - 1 = H by omega] at e3
      have HE := Lib.hid (show lossP d f t = (o1, o2) by rw [HLP.out, e2, e3])
      clear e2 e3
      obtain ⟨z0, z1, z2, z3⟩ := id HO.out
      obtain ⟨u0, u1, u2, u3⟩ := id HR.out
      obtain ⟨r1, r2⟩ := res2 u0 u1
      go_wp2_with fail
      refine bodyPost_ret (v := .agg #[I o1, I o2]) (by simp [results, Try.results79, go_sem, r1, r2]) rfl ⟨by rw [HE.out], ?_⟩
      exact (HW.out.setCell (p := ⟨w.heap.size + 1, 0, none⟩) (by simp) _).setCell (p := ⟨w.heap.size + 1, 1, none⟩) (by simp) _
end Go.Proofs.Ytbddaemekgflmaa
