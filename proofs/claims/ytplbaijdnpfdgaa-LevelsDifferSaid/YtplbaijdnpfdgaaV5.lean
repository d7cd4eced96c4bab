/- Walks of the reference: Differ, Higher. -/
import Derived.Test.YtplbaijdnpfdgaaV4
namespace Go.Proofs.Ytplbaijdnpfdgaa
open Go.RowKit Go.Sort

/-- The spans of a town with one level put. -/
def putK (t : Twn) (a : Nat) (n : Int) : List Sp := (spansR (addS t ⟨a, n, n⟩)).getD []
/-- The reference's answer, of the first k numbers. -/
def outN (t : Twn) (a b : Nat) (lo : Int) : Nat → Int × Int
  | 0 => (100, -100)
  | k + 1 => (min (outN t a b lo k).1 ((spAt (putK t a (lo + k)) b).low - (lo + k)), max (outN t a b lo k).2 ((spAt (putK t a (lo + k)) b).high - (lo + k)))
theorem put_exact {t : Twn} (h : openE t true = 0) {a : Nat} (ha : (a : Int) < t.wells) {n : Int} (h1 : (lvl (closeM (baseM t)) a).low ≤ n) (h2 : n ≤ (lvl (closeM (baseM t)) a).high) : Vl (addS t ⟨a, n, n⟩) ∧ spansR (addS t ⟨a, n, n⟩) = some (putK t a n) ∧ Exact (addS t ⟨a, n, n⟩) (putK t a n) := by
  obtain ⟨hv, -, l, he, hl⟩ := open_exact h
  rw [hl a ha] at h1 h2
  obtain ⟨y, hy, hyn⟩ := mid_truth hv he ha h1 h2
  have hb := hy.own a ha
  rw [hyn] at hb
  have hv2 : Vl (addS t ⟨a, n, n⟩) := hv.addS (by dsimp only; omega)
  have ht : ∃ x, Tr (addS t ⟨a, n, n⟩) x := ⟨y, tr_addS.2 ⟨hy, by dsimp only; rw [Int.toNat_natCast]; omega⟩⟩
  rcases spansR_cases hv2 with ⟨l', h3, h4⟩ | ⟨-, h3⟩
  · have : putK t a n = l' := by unfold putK; rw [h3]; rfl
    rw [this]
    exact ⟨hv2, h3, h4⟩
  · exact absurd ht h3
theorem outN_said {t : Twn} (h : openE t true = 0) {a b : Nat} (ha : (a : Int) < t.wells) (hb : (b : Int) < t.wells) {lo hi : Int} (hlo : (lvl (closeM (baseM t)) a).low = lo) (hhi : (lvl (closeM (baseM t)) a).high = hi) (k : Nat) (hk : lo + k ≤ hi + 1) :
    (-100 ≤ (outN t a b lo k).2 ∧ (outN t a b lo k).1 ≤ 100 ∧ -100 ≤ (outN t a b lo k).1 ∧ (outN t a b lo k).2 ≤ 100) ∧
    (∀ x, Tr t x → x a < lo + k → (outN t a b lo k).1 ≤ x b - x a ∧ x b - x a ≤ (outN t a b lo k).2) ∧
    (0 < k → (∃ x, Tr t x ∧ x b - x a = (outN t a b lo k).1) ∧ (∃ x, Tr t x ∧ x b - x a = (outN t a b lo k).2)) := by
  induction k with
  | zero =>
    have e0 : outN t a b lo 0 = (100, -100) := rfl
    rw [e0]
    refine ⟨by omega, fun x hx hlt => ?_, fun h => by omega⟩
    have := (each_level h hx ha).1
    rw [hlo] at this
    omega
  | succ k ih =>
    obtain ⟨⟨i1, i2, i3, i4⟩, ih1, ih2⟩ := ih (by omega)
    obtain ⟨hv2, hs, he⟩ := put_exact h ha (n := lo + k) (by rw [hlo]; omega) (by rw [hhi]; omega)
    have hn : outN t a b lo (k + 1) = (min (outN t a b lo k).1 ((spAt (putK t a (lo + k)) b).low - (lo + k)), max (outN t a b lo k).2 ((spAt (putK t a (lo + k)) b).high - (lo + k))) := rfl
    have h0 : k = 0 → outN t a b lo k = (100, -100) := fun e => by rw [e]; rfl
    obtain ⟨O, hO⟩ : ∃ x, outN t a b lo k = x := ⟨_, rfl⟩
    rw [hO] at i1 i2 i3 i4 ih1 ih2 hn h0
    rw [hn]
    dsimp only
    have tl := tr_addS.1 he.low
    have th := tr_addS.1 he.high
    dsimp only at tl th
    rw [Int.toNat_natCast] at tl th
    obtain ⟨kl, hkl⟩ : ∃ x, (spAt (putK t a (lo + k)) b).low = x := ⟨_, rfl⟩
    obtain ⟨kh, hkh⟩ : ∃ x, (spAt (putK t a (lo + k)) b).high = x := ⟨_, rfl⟩
    have bl := tl.1.own b hb
    have bh := th.1.own b hb
    have al := tl.1.own a ha
    try dsimp only at bl bh al
    rw [hkl] at bl ⊢
    rw [hkh] at bh ⊢
    have el : ∃ x, Tr t x ∧ x b - x a = kl - (lo + k) := ⟨_, tl.1, by (try dsimp only); rw [hkl]; omega⟩
    have eh : ∃ x, Tr t x ∧ x b - x a = kh - (lo + k) := ⟨_, th.1, by (try dsimp only); rw [hkh]; omega⟩
    refine ⟨by omega, fun x hx hlt => ?_, fun _ => ⟨?_, ?_⟩⟩
    · by_cases hx2 : x a < lo + k
      · have := ih1 x hx hx2
        omega
      · have hxa : x a = lo + k := by omega
        have := he.all x (tr_addS.2 ⟨hx, by dsimp only; rw [Int.toNat_natCast]; omega⟩) b (by rw [he.len]; show b < t.wells.toNat; omega)
        rw [hkl, hkh] at this
        omega
    · by_cases hm : O.1 ≤ kl - (lo + k)
      · rw [Int.min_eq_left hm]
        by_cases hk0 : 0 < k
        · exact (ih2 hk0).1
        · have := h0 (by omega)
          rw [this] at hm
          dsimp only at hm
          omega
      · rw [Int.min_eq_right (by omega)]
        exact el
    · by_cases hm : kh - (lo + k) ≤ O.2
      · rw [Int.max_eq_left hm]
        by_cases hk0 : 0 < k
        · exact (ih2 hk0).2
        · have := h0 (by omega)
          rw [this] at hm
          dsimp only at hm
          omega
      · rw [Int.max_eq_right (by omega)]
        exact eh
theorem outN_differ {t : Twn} (h : openE t true = 0) {a b : Nat} (ha : isWell t.wells (a : Int) = true) (hb : isWell t.wells (b : Int) = true) {lo hi : Int} (hlo : (lvl (closeM (baseM t)) a).low = lo) (hhi : (lvl (closeM (baseM t)) a).high = hi) :
    differP t a b = (⟨(outN t a b lo (hi + 1 - lo).toNat).1, (outN t a b lo (hi + 1 - lo).toNat).2⟩, 0) := by
  have ha' := isWell_iff.1 ha
  have hb' := isWell_iff.1 hb
  obtain ⟨dl, dh, hd, ⟨x, hx, ex⟩, ⟨y, hy, ey⟩, hall⟩ := differ_one h ha hb
  rw [Int.toNat_natCast, Int.toNat_natCast] at ex ey
  simp only [Int.toNat_natCast] at hall
  have hx1 := each_level h hx (w := a) (by omega)
  have hy1 := each_level h hy (w := a) (by omega)
  rw [hlo, hhi] at hx1 hy1
  obtain ⟨-, h2, h3⟩ := outN_said h (a := a) (b := b) (by omega) (by omega) hlo hhi (hi + 1 - lo).toNat (by omega)
  obtain ⟨⟨u, hu, eu⟩, ⟨v, hv, ev⟩⟩ := h3 (by omega)
  have a1 := h2 x hx (by omega)
  have a2 := h2 y hy (by omega)
  have b1 := hall u hu
  have b2 := hall v hv
  rw [hd]
  generalize outN t a b lo (hi + 1 - lo).toNat = O at *
  have e1 : dl = O.1 := by omega
  have e2 : dh = O.2 := by omega
  rw [e1, e2]

set_option maxRecDepth 100000 in
set_option maxHeartbeats 8000000 in
theorem rDiffer_any (v : Value) (t : Twn) (a b : Int) (w : World) (hv : TwnAt w v t) :
    Calls Try.prog 45 #[v, I a, I b] w fun e w' => e = .returned (.tuple #[(differP t a b).1.val, I (differP t a b).2]) ∧ Below w.heap.size w w' := by
  obtain ⟨sv, pv, rfl, hs, hp⟩ := hv
  have HSN := Lib.hid hs
  have HSP := Lib.hid hp
  obtain ⟨A1, c1, rfl, -, -, -⟩ := id hs.open_
  obtain ⟨A2, c2, rfl, -, -, -⟩ := id hp.open_
  clear hs hp
  have S := Lib.hid (show St w ((w.alloc (.cells #[I t.wells, .slice A1 t.snd.length c1, .slice A2 t.slp.length c2] 25)).alloc (.cells #[I 0, I 0] 40)) (w.heap.size + 1 + 1) [.box (w.heap.size + 1) [I 0, I 0], .box w.heap.size [I t.wells, .slice A1 t.snd.length c1, .slice A2 t.slp.length c2]] from ((St.init w).alloc [I t.wells, .slice A1 t.snd.length c1, .slice A2 t.slp.length c2] 25).alloc [I 0, I 0] 40)
  cases hv : valid t
  · have HV := Lib.hid hv
    have HE := Lib.hid (show differP t a b = (⟨0, 0⟩, 10) by unfold differP; rw [openE_inv hv, if_neg (by decide)])
    clear hv
    cases hwa : isWellW t.wells a
    · have HWA := Lib.hid hwa
      clear hwa
      go_enter Try.func45, Try.ntmps45
      go_wp2_with fail
      refine wp_region_seg [([0, 1, 2], 3), ([4, 5, 6], 7), ([8], 9)] [10, 11, 12, 13, 14] [] 15 (by kernel_rfl) (by kernel_rfl) ?_
      intro KQ hKQ w1 hb
      have S := Lib.hid (S.out.call hb)
      clear hb
      have k0 := cell_regrown (S.out.get 1 0 rfl rfl)
      have k1 := cell_regrown (S.out.get 1 1 rfl rfl)
      have k2 := cell_regrown (S.out.get 1 2 rfl rfl)
      refine seg_next ?_
      simp only [opsAt, List.filterMap_cons, List.filterMap_nil, List.getElem?_toArray, List.getElem?_cons_succ, List.getElem?_cons_zero]
      repeat (first | go_big_quiet_step (fail) | quiet_step (fail))
      refine wpQuiet_nil ?_
      intro K hK
      refine loud_op rfl rfl ?_
      go_simp
      refine (rIsWellW_any _ _ _ _ _ ⟨_, _, _, rfl⟩ ⟨_, _, _, rfl⟩).mono ?_
      rintro e w2 ⟨rfl, hb⟩
      rw [HWA.out]
      have S := Lib.hid (S.out.call hb)
      refine hK _ _ hb ?_
      clear hK K hb k0 k1 k2
      refine seg_next ?_
      simp only [opsAt, List.filterMap_cons, List.filterMap_nil, List.getElem?_toArray, List.getElem?_cons_succ, List.getElem?_cons_zero]
      repeat (first | go_big_quiet_step (fail) | quiet_step (fail))
      refine wpQuiet_nil ?_
      intro K hK
      refine loud_skip rfl rfl ?_
      refine hK _ _ (Below.refl _ _) ?_
      clear hK K
      refine seg_next ?_
      simp only [opsAt, List.filterMap_cons, List.filterMap_nil, List.getElem?_toArray, List.getElem?_cons_succ, List.getElem?_cons_zero]
      repeat (first | go_big_quiet_step (fail) | quiet_step (fail))
      refine wpQuiet_nil ?_
      intro K hK
      refine loud_op rfl rfl ?_
      go_simp
      refine (known_no _ t _ _ ⟨_, _, rfl, HSN.out.below S.out.bel, HSP.out.below S.out.bel⟩ (by rw [openE_inv HV.out]; decide)).mono ?_
      rintro e w4 ⟨rfl, hb⟩
      rw [openE_inv HV.out]
      have S := Lib.hid (S.out.call hb)
      refine hK _ _ hb ?_
      clear hK K hb
      refine seg_last ?_
      simp only [opsAt, List.filterMap_cons, List.filterMap_nil, List.getElem?_toArray, List.getElem?_cons_succ, List.getElem?_cons_zero]
      repeat (first | go_big_quiet_step (fail) | quiet_step (fail))
      refine wpQuiet_nil ?_
      have z0 := S.out.get 0 0 rfl rfl
      have z1 := S.out.get 0 1 rfl rfl
      have z2 := S.out.free 0 0 rfl
      have z3 := S.out.free 0 1 rfl
      have S2 := Lib.hid ((S.out.set 0 0 (I 0) rfl).set 0 1 (I 0) rfl)
      have r0 := S2.out.get 0 0 rfl rfl
      have r1 := S2.out.get 0 1 rfl rfl
      go_wp2_with fail
      refine bodyPost_ret (v := .tuple #[.agg #[I 0, I 0], I 10]) (by simp [results, Try.results45, go_sem, r0, r1]) rfl ⟨by rw [HE.out], S2.out.bel⟩
    · have HWA := Lib.hid hwa
      obtain ⟨vb, hvb⟩ : ∃ x, isWellW t.wells b = x := ⟨_, rfl⟩
      have HWB := Lib.hid hvb
      clear hwa hvb
      go_enter Try.func45, Try.ntmps45
      go_wp2_with fail
      refine wp_region_seg [([0, 1, 2], 3), ([4, 5, 6], 7), ([8], 9)] [10, 11, 12, 13, 14] [] 15 (by kernel_rfl) (by kernel_rfl) ?_
      intro KQ hKQ w1 hb
      have S := Lib.hid (S.out.call hb)
      clear hb
      have k0 := cell_regrown (S.out.get 1 0 rfl rfl)
      have k1 := cell_regrown (S.out.get 1 1 rfl rfl)
      have k2 := cell_regrown (S.out.get 1 2 rfl rfl)
      refine seg_next ?_
      simp only [opsAt, List.filterMap_cons, List.filterMap_nil, List.getElem?_toArray, List.getElem?_cons_succ, List.getElem?_cons_zero]
      repeat (first | go_big_quiet_step (fail) | quiet_step (fail))
      refine wpQuiet_nil ?_
      intro K hK
      refine loud_op rfl rfl ?_
      go_simp
      refine (rIsWellW_any _ _ _ _ _ ⟨_, _, _, rfl⟩ ⟨_, _, _, rfl⟩).mono ?_
      rintro e w2 ⟨rfl, hb⟩
      rw [HWA.out]
      have S := Lib.hid (S.out.call hb)
      refine hK _ _ hb ?_
      clear hK K hb k0 k1 k2
      have k0 := cell_regrown (S.out.get 1 0 rfl rfl)
      have k1 := cell_regrown (S.out.get 1 1 rfl rfl)
      have k2 := cell_regrown (S.out.get 1 2 rfl rfl)
      refine seg_next ?_
      simp only [opsAt, List.filterMap_cons, List.filterMap_nil, List.getElem?_toArray, List.getElem?_cons_succ, List.getElem?_cons_zero]
      repeat (first | go_big_quiet_step (fail) | quiet_step (fail))
      refine wpQuiet_nil ?_
      intro K hK
      refine loud_op rfl rfl ?_
      go_simp
      refine (rIsWellW_any _ _ _ _ _ ⟨_, _, _, rfl⟩ ⟨_, _, _, rfl⟩).mono ?_
      rintro e w3 ⟨rfl, hb⟩
      rw [HWB.out]
      have S := Lib.hid (S.out.call hb)
      refine hK _ _ hb ?_
      clear hK K hb k0 k1 k2
      refine seg_next ?_
      simp only [opsAt, List.filterMap_cons, List.filterMap_nil, List.getElem?_toArray, List.getElem?_cons_succ, List.getElem?_cons_zero]
      repeat (first | go_big_quiet_step (fail) | quiet_step (fail))
      refine wpQuiet_nil ?_
      intro K hK
      refine loud_op rfl rfl ?_
      go_simp
      refine (known_no _ t _ _ ⟨_, _, rfl, HSN.out.below S.out.bel, HSP.out.below S.out.bel⟩ (by rw [openE_inv HV.out]; decide)).mono ?_
      rintro e w4 ⟨rfl, hb⟩
      rw [openE_inv HV.out]
      have S := Lib.hid (S.out.call hb)
      refine hK _ _ hb ?_
      clear hK K hb
      refine seg_last ?_
      simp only [opsAt, List.filterMap_cons, List.filterMap_nil, List.getElem?_toArray, List.getElem?_cons_succ, List.getElem?_cons_zero]
      repeat (first | go_big_quiet_step (fail) | quiet_step (fail))
      refine wpQuiet_nil ?_
      have z0 := S.out.get 0 0 rfl rfl
      have z1 := S.out.get 0 1 rfl rfl
      have z2 := S.out.free 0 0 rfl
      have z3 := S.out.free 0 1 rfl
      have S2 := Lib.hid ((S.out.set 0 0 (I 0) rfl).set 0 1 (I 0) rfl)
      have r0 := S2.out.get 0 0 rfl rfl
      have r1 := S2.out.get 0 1 rfl rfl
      go_wp2_with fail
      refine bodyPost_ret (v := .tuple #[.agg #[I 0, I 0], I 10]) (by simp [results, Try.results45, go_sem, r0, r1]) rfl ⟨by rw [HE.out], S2.out.bel⟩
  · obtain ⟨hvl, hs8, hp8⟩ := valid_iff'.1 hv
    have hl1 : t.snd.length ≤ 1000 := by omega
    have hl2 : t.slp.length ≤ 1000 := by omega
    have hw0 := hvl.w0
    have hw6 : t.wells ≤ 1000 := by have := hvl.w6; omega
    clear hv hvl
    cases hwa : isWell t.wells a
    · have HWA := Lib.hid hwa
      obtain ⟨er, her⟩ : ∃ x, openE t false = x := ⟨_, rfl⟩
      have hne : er ≠ 0 := by rw [← her]; intro h; have := (openE_zero' h).2.1; cases this
      have hnb := bne_iff_ne.2 hne
      have HER := Lib.hid her
      have HE := Lib.hid (show differP t a b = (⟨0, 0⟩, er) by unfold differP; rw [hwa, Bool.false_and, her, if_neg hne])
      have HNE := Lib.hid (show openE t false ≠ 0 by rw [her]; exact hne)
      clear hwa her hne
      go_enter Try.func45, Try.ntmps45
      go_wp2_with fail
      refine wp_region_seg [([0, 1, 2], 3), ([4, 5, 6], 7), ([8], 9)] [10, 11, 12, 13, 14] [] 15 (by kernel_rfl) (by kernel_rfl) ?_
      intro KQ hKQ w1 hb
      have S := Lib.hid (S.out.call hb)
      clear hb
      have k0 := cell_regrown (S.out.get 1 0 rfl rfl)
      have k1 := cell_regrown (S.out.get 1 1 rfl rfl)
      have k2 := cell_regrown (S.out.get 1 2 rfl rfl)
      refine seg_next ?_
      simp only [opsAt, List.filterMap_cons, List.filterMap_nil, List.getElem?_toArray, List.getElem?_cons_succ, List.getElem?_cons_zero]
      repeat (first | go_big_quiet_step (fail) | quiet_step (fail))
      refine wpQuiet_nil ?_
      intro K hK
      refine loud_op rfl rfl ?_
      go_simp
      refine (rIsWell_any _ _ _ _ _ hw0 hw6 ⟨_, _, _, rfl⟩ ⟨_, _, _, rfl⟩).mono ?_
      rintro e w2 ⟨rfl, hb⟩
      rw [HWA.out]
      have S := Lib.hid (S.out.call hb)
      refine hK _ _ hb ?_
      clear hK K hb k0 k1 k2
      refine seg_next ?_
      simp only [opsAt, List.filterMap_cons, List.filterMap_nil, List.getElem?_toArray, List.getElem?_cons_succ, List.getElem?_cons_zero]
      repeat (first | go_big_quiet_step (fail) | quiet_step (fail))
      refine wpQuiet_nil ?_
      intro K hK
      refine loud_skip rfl rfl ?_
      refine hK _ _ (Below.refl _ _) ?_
      clear hK K
      refine seg_next ?_
      simp only [opsAt, List.filterMap_cons, List.filterMap_nil, List.getElem?_toArray, List.getElem?_cons_succ, List.getElem?_cons_zero]
      repeat (first | go_big_quiet_step (fail) | quiet_step (fail))
      refine wpQuiet_nil ?_
      intro K hK
      refine loud_op rfl rfl ?_
      go_simp
      refine (known_no _ t _ _ ⟨_, _, rfl, HSN.out.below S.out.bel, HSP.out.below S.out.bel⟩ HNE.out).mono ?_
      rintro e w4 ⟨rfl, hb⟩
      rw [HER.out]
      have S := Lib.hid (S.out.call hb)
      refine hK _ _ hb ?_
      clear hK K hb
      refine seg_last ?_
      simp only [opsAt, List.filterMap_cons, List.filterMap_nil, List.getElem?_toArray, List.getElem?_cons_succ, List.getElem?_cons_zero]
      repeat (first | go_big_quiet_step (fail) | quiet_step (fail))
      refine wpQuiet_nil ?_
      have z0 := S.out.get 0 0 rfl rfl
      have z1 := S.out.get 0 1 rfl rfl
      have z2 := S.out.free 0 0 rfl
      have z3 := S.out.free 0 1 rfl
      have S2 := Lib.hid ((S.out.set 0 0 (I 0) rfl).set 0 1 (I 0) rfl)
      have r0 := S2.out.get 0 0 rfl rfl
      have r1 := S2.out.get 0 1 rfl rfl
      go_wp2_with fail
      refine bodyPost_ret (v := .tuple #[.agg #[I 0, I 0], I er]) (by simp [results, Try.results45, go_sem, r0, r1]) rfl ⟨by rw [HE.out], S2.out.bel⟩
    · have HWA := Lib.hid hwa
      cases hwb : isWell t.wells b
      · have HWB := Lib.hid hwb
        obtain ⟨er, her⟩ : ∃ x, openE t false = x := ⟨_, rfl⟩
        have hne : er ≠ 0 := by rw [← her]; intro h; have := (openE_zero' h).2.1; cases this
        have hnb := bne_iff_ne.2 hne
        have HER := Lib.hid her
        have HE := Lib.hid (show differP t a b = (⟨0, 0⟩, er) by unfold differP; rw [hwa, hwb, Bool.and_false, her, if_neg hne])
        have HNE := Lib.hid (show openE t false ≠ 0 by rw [her]; exact hne)
        clear hwa hwb her hne
        go_enter Try.func45, Try.ntmps45
        go_wp2_with fail
        refine wp_region_seg [([0, 1, 2], 3), ([4, 5, 6], 7), ([8], 9)] [10, 11, 12, 13, 14] [] 15 (by kernel_rfl) (by kernel_rfl) ?_
        intro KQ hKQ w1 hb
        have S := Lib.hid (S.out.call hb)
        clear hb
        have k0 := cell_regrown (S.out.get 1 0 rfl rfl)
        have k1 := cell_regrown (S.out.get 1 1 rfl rfl)
        have k2 := cell_regrown (S.out.get 1 2 rfl rfl)
        refine seg_next ?_
        simp only [opsAt, List.filterMap_cons, List.filterMap_nil, List.getElem?_toArray, List.getElem?_cons_succ, List.getElem?_cons_zero]
        repeat (first | go_big_quiet_step (fail) | quiet_step (fail))
        refine wpQuiet_nil ?_
        intro K hK
        refine loud_op rfl rfl ?_
        go_simp
        refine (rIsWell_any _ _ _ _ _ hw0 hw6 ⟨_, _, _, rfl⟩ ⟨_, _, _, rfl⟩).mono ?_
        rintro e w2 ⟨rfl, hb⟩
        rw [HWA.out]
        have S := Lib.hid (S.out.call hb)
        refine hK _ _ hb ?_
        clear hK K hb k0 k1 k2
        have k0 := cell_regrown (S.out.get 1 0 rfl rfl)
        have k1 := cell_regrown (S.out.get 1 1 rfl rfl)
        have k2 := cell_regrown (S.out.get 1 2 rfl rfl)
        refine seg_next ?_
        simp only [opsAt, List.filterMap_cons, List.filterMap_nil, List.getElem?_toArray, List.getElem?_cons_succ, List.getElem?_cons_zero]
        repeat (first | go_big_quiet_step (fail) | quiet_step (fail))
        refine wpQuiet_nil ?_
        intro K hK
        refine loud_op rfl rfl ?_
        go_simp
        refine (rIsWell_any _ _ _ _ _ hw0 hw6 ⟨_, _, _, rfl⟩ ⟨_, _, _, rfl⟩).mono ?_
        rintro e w3 ⟨rfl, hb⟩
        rw [HWB.out]
        have S := Lib.hid (S.out.call hb)
        refine hK _ _ hb ?_
        clear hK K hb k0 k1 k2
        refine seg_next ?_
        simp only [opsAt, List.filterMap_cons, List.filterMap_nil, List.getElem?_toArray, List.getElem?_cons_succ, List.getElem?_cons_zero]
        repeat (first | go_big_quiet_step (fail) | quiet_step (fail))
        refine wpQuiet_nil ?_
        intro K hK
        refine loud_op rfl rfl ?_
        go_simp
        refine (known_no _ t _ _ ⟨_, _, rfl, HSN.out.below S.out.bel, HSP.out.below S.out.bel⟩ HNE.out).mono ?_
        rintro e w4 ⟨rfl, hb⟩
        rw [HER.out]
        have S := Lib.hid (S.out.call hb)
        refine hK _ _ hb ?_
        clear hK K hb
        refine seg_last ?_
        simp only [opsAt, List.filterMap_cons, List.filterMap_nil, List.getElem?_toArray, List.getElem?_cons_succ, List.getElem?_cons_zero]
        repeat (first | go_big_quiet_step (fail) | quiet_step (fail))
        refine wpQuiet_nil ?_
        have z0 := S.out.get 0 0 rfl rfl
        have z1 := S.out.get 0 1 rfl rfl
        have z2 := S.out.free 0 0 rfl
        have z3 := S.out.free 0 1 rfl
        have S2 := Lib.hid ((S.out.set 0 0 (I 0) rfl).set 0 1 (I 0) rfl)
        have r0 := S2.out.get 0 0 rfl rfl
        have r1 := S2.out.get 0 1 rfl rfl
        go_wp2_with fail
        refine bodyPost_ret (v := .tuple #[.agg #[I 0, I 0], I er]) (by simp [results, Try.results45, go_sem, r0, r1]) rfl ⟨by rw [HE.out], S2.out.bel⟩
      · have HWB := Lib.hid hwb
        by_cases ho : openE t true = 0
        · have HO := Lib.hid ho
          have ha1 := isWell_iff.1 hwa
          have hb1 := isWell_iff.1 hwb
          obtain ⟨a, rfl⟩ := Int.eq_ofNat_of_zero_le ha1.1
          obtain ⟨b, rfl⟩ := Int.eq_ofNat_of_zero_le hb1.1
          have ha2 : (a : Int) < t.wells := by omega
          have hb2 : (b : Int) < t.wells := by omega
          have hw6' := (openE_zero ho).1.w6
          clear hwa hwb ho ha1 hb1
          go_enter Try.func45, Try.ntmps45
          go_wp2_with fail
          refine wp_region_seg [([0, 1, 2], 3), ([4, 5, 6], 7), ([8], 9)] [10, 11, 12, 13, 14] [] 15 (by kernel_rfl) (by kernel_rfl) ?_
          intro KQ hKQ w1 hb
          have S := Lib.hid (S.out.call hb)
          clear hb
          have k0 := cell_regrown (S.out.get 1 0 rfl rfl)
          have k1 := cell_regrown (S.out.get 1 1 rfl rfl)
          have k2 := cell_regrown (S.out.get 1 2 rfl rfl)
          refine seg_next ?_
          simp only [opsAt, List.filterMap_cons, List.filterMap_nil, List.getElem?_toArray, List.getElem?_cons_succ, List.getElem?_cons_zero]
          repeat (first | go_big_quiet_step (fail) | quiet_step (fail))
          refine wpQuiet_nil ?_
          intro K hK
          refine loud_op rfl rfl ?_
          go_simp
          refine (rIsWell_any _ _ _ _ _ hw0 hw6 ⟨_, _, _, rfl⟩ ⟨_, _, _, rfl⟩).mono ?_
          rintro e w2 ⟨rfl, hb⟩
          rw [HWA.out]
          have S := Lib.hid (S.out.call hb)
          refine hK _ _ hb ?_
          clear hK K hb k0 k1 k2
          have k0 := cell_regrown (S.out.get 1 0 rfl rfl)
          have k1 := cell_regrown (S.out.get 1 1 rfl rfl)
          have k2 := cell_regrown (S.out.get 1 2 rfl rfl)
          refine seg_next ?_
          simp only [opsAt, List.filterMap_cons, List.filterMap_nil, List.getElem?_toArray, List.getElem?_cons_succ, List.getElem?_cons_zero]
          repeat (first | go_big_quiet_step (fail) | quiet_step (fail))
          refine wpQuiet_nil ?_
          intro K hK
          refine loud_op rfl rfl ?_
          go_simp
          refine (rIsWell_any _ _ _ _ _ hw0 hw6 ⟨_, _, _, rfl⟩ ⟨_, _, _, rfl⟩).mono ?_
          rintro e w3 ⟨rfl, hb⟩
          rw [HWB.out]
          have S := Lib.hid (S.out.call hb)
          refine hK _ _ hb ?_
          clear hK K hb k0 k1 k2
          refine seg_next ?_
          simp only [opsAt, List.filterMap_cons, List.filterMap_nil, List.getElem?_toArray, List.getElem?_cons_succ, List.getElem?_cons_zero]
          repeat (first | go_big_quiet_step (fail) | quiet_step (fail))
          refine wpQuiet_nil ?_
          intro K hK
          refine loud_op rfl rfl ?_
          go_simp
          refine (known_yes _ t _ _ ⟨_, _, rfl, HSN.out.below S.out.bel, HSP.out.below S.out.bel⟩ HO.out).mono ?_
          rintro e w4 ⟨L, v3, rfl, hex, ho, hb⟩
          obtain ⟨A3, c3, rfl⟩ := own_shape ho
          have HEX := Lib.hid hex
          have S := Lib.hid (S.out.take hb ho)
          refine hK _ _ hb ?_
          clear hK K hb ho hex
          refine seg_last ?_
          simp only [opsAt, List.filterMap_cons, List.filterMap_nil, List.getElem?_toArray, List.getElem?_cons_succ, List.getElem?_cons_zero]
          repeat (first | go_big_quiet_step (fail) | quiet_step (fail))
          refine wpQuiet_nil ?_
          obtain ⟨hex, hlv⟩ := HEX.out
          have hll := hex.len
          have hla := hlv a ha2
          obtain ⟨N, hN⟩ : ∃ N, L.length = N := ⟨_, rfl⟩
          rw [hN] at S hll
          rw [hN]
          obtain ⟨g3, c3', hA3, -, hg3⟩ := own_shape_pos (S.out.own 0 rfl) (show 0 < N by omega)
          injection hA3 with hA3 _ hc3
          subst hA3
          have hcl := spCells_get (l := L) (m := a) (by omega)
          rw [← hla] at hcl
          obtain ⟨⟨lo, hi'⟩, hlh⟩ : ∃ s, lvl (closeM (baseM t)) a = s := ⟨_, rfl⟩
          rw [hlh] at hcl
          dsimp only at hcl
          have HCL := Lib.hid hcl
          have HLH := Lib.hid hlh
          have haN : (a : Int) < (N : Int) := by omega
          have hbN : (b : Int) < (N : Int) := by omega
          have HNN := Lib.hid hll
          have hbd := (open_ok HO.out).2 a (by omega)
          rw [hlh] at hbd
          dsimp only at hbd
          have y0 := own_at2 (S.out.own 0 rfl) hcl.1
          have HSD := Lib.hid (outN_said HO.out (a := a) (b := b) ha2 hb2 (congrArg Sp.low hlh) (congrArg Sp.high hlh))
          dsimp only at HSD
          have HPE := Lib.hid (fun (n : Int) => put_exact HO.out (a := a) ha2 (n := n))
          rw [hlh] at HPE
          have HE1 := Lib.hid (outN_differ HO.out HWA.out HWB.out (congrArg Sp.low hlh) (congrArg Sp.high hlh))
          dsimp only at HE1
          clear hex hlv hla hN hcl hlh hc3 hll
          go_wp2_with fail
          clear y0 hg3
          have S := Lib.hid (S.out.alloc [I 100, I (-100)] 40)
          go_loopw [11] (fun i wr => ∃ k : Nat, k ≤ (hi' + 1 - lo).toNat ∧ i = I (lo + k) ∧ Hid (St w wr wr.heap.size [.box w4.heap.size [I (outN t a b lo k).1, I (outN t a b lo k).2], .own 40 2 (.slice (some ⟨g3, 0, none⟩) N c3) N (spCells L), .box (w.heap.size + 1) [I 0, I 0], .box w.heap.size [I t.wells, .slice A1 t.snd.length c1, .slice A2 t.slp.length c2]])) (fun i _ => (hi' + 1 - intOf i).toNat)
          case atStart => exact ⟨0, by omega, by go_num, Lib.hid S.out.fix⟩
          case round =>
            clear S
            obtain ⟨k, hk, rfl, S⟩ := hrel
            have y1 := own_at2 (S.out.own 1 rfl) HCL.out.2
            have q0 := S.out.get 3 0 rfl rfl
            have q1 := S.out.get 3 1 rfl rfl
            have q2 := S.out.get 3 2 rfl rfl
            by_cases hlt : lo + k ≤ hi'
            · obtain ⟨hv2, hs2, he2⟩ := HPE.out (lo + k) (by (try dsimp only); omega) (by (try dsimp only); exact hlt)
              obtain ⟨⟨j1, j2, j3, j4⟩, -, -⟩ := HSD.out k (by (try dsimp only); omega)
              have hnext : outN t a b lo (k + 1) = (min (outN t a b lo k).1 ((spAt (putK t a (lo + k)) b).low - (lo + k)), max (outN t a b lo k).2 ((spAt (putK t a (lo + k)) b).high - (lo + k))) := rfl
              have hkl := he2.low.own b hb2
              have hkh := he2.high.own b hb2
              have hk2l := he2.len
              have hwl : (addS t ⟨(a : Nat), lo + k, lo + k⟩).wells = t.wells := rfl
              obtain ⟨n, hn⟩ : ∃ n, lo + (k : Int) = n := ⟨_, rfl⟩
              rw [hn] at hv2 hs2 he2 hnext hkl hkh hk2l hlt hwl ⊢
              have HNX := Lib.hid hn
              have hnb : lo ≤ n := by omega
              obtain ⟨K2, hK2⟩ : ∃ x, putK t a n = x := ⟨_, rfl⟩
              rw [hK2] at hs2 he2 hnext hkl hkh hk2l
              obtain ⟨⟨o1, o2⟩, ho⟩ : ∃ x, outN t a b lo k = x := ⟨_, rfl⟩
              rw [ho] at hnext j1 j2 j3 j4 S
              have HV2 := Lib.hid hv2
              have HS2 := Lib.hid hs2
              have HN2 := Lib.hid hnext
              have HK2 := Lib.hid (show K2.length = t.wells.toNat from hk2l)
              obtain ⟨kl, hkl'⟩ : ∃ x, (spAt K2 b).low = x := ⟨_, rfl⟩
              obtain ⟨kh, hkh'⟩ : ∃ x, (spAt K2 b).high = x := ⟨_, rfl⟩
              dsimp only at hkl hkh j1 j2 j3 j4
              rw [hkl'] at hkl
              rw [hkh'] at hkh
              rw [hkl', hkh'] at HN2
              have HKV := Lib.hid (And.intro hkl' hkh')
              clear hn hK2 ho hv2 hs2 he2 hnext hk2l hwl hkl' hkh'
              go_wp2_with fail
              clear q0 q1 q2 y1
              refine (sounded_any _ t ⟨(a : Nat), n, n⟩ _ ⟨_, _, rfl, HSN.out.below S.out.bel, HSP.out.below S.out.bel⟩ hl1 hl2).mono ?_
              rintro e w5 ⟨v', rfl, ⟨sv', pv', rfl, ho1, ho2⟩, hb⟩
              have S := Lib.hid (S.out.take2 hb ho1 ho2 (by decide))
              clear hb ho1 ho2
              go_wp2_with fail
              refine (spans_any _ (addS t ⟨(a : Nat), n, n⟩) _ ⟨_, _, rfl, S.out.row 0 rfl, S.out.row 1 rfl⟩ HV2.out (by simp [addS]; omega) hl2).mono ?_
              rintro e w6 (⟨l', v, hs, rfl, ho, hb⟩ | ⟨hs, rfl, hb⟩)
              · rw [HS2.out] at hs
                injection hs with hs
                subst hs
                obtain ⟨g4, c4, rfl, -, -⟩ := own_shape_pos ho (show 0 < K2.length by rw [HK2.out]; omega)
                have S := Lib.hid ((S.out.take hb ho).drop 1 |>.drop 1)
                clear hb ho
                have hk2N : K2.length = N := by rw [HK2.out, HNN.out]
                rw [hk2N] at S
                rw [hk2N]
                have hcl := spCells_get (l := K2) (m := b) (by omega)
                rw [HKV.out.1, HKV.out.2] at hcl
                have HC2 := Lib.hid hcl
                clear hcl hk2N
                go_wp2_with fail
                refine wp_region_treeB (.last [0, 1, 2, 3, 4, 5, 6, 7, 8, 9, 10, 11, 12, 13, 14, 15, 16, 17, 18, 19, 20] [21]) 21 (by kernel_rfl) (by kernel_rfl) ?_
                intro KQ hKQ w7 hb
                have S := Lib.hid (S.out.call hb)
                clear hb
                have p0 := cell_regrown (S.out.get 1 0 rfl rfl)
                have p1 := cell_regrown (S.out.get 1 1 rfl rfl)
                have y0 := cell_regrown (own_at2 (S.out.own 0 rfl) HC2.out.1)
                have y1 := cell_regrown (own_at2 (S.out.own 0 rfl) HC2.out.2)
                have i1 : IntKind.i64.wrap (kl - n) = kl - n := IntWalk.i64_in _ (by omega)
                have i2 : IntKind.i64.wrap (kh - n) = kh - n := IntWalk.i64_in _ (by omega)
                refine treeB_last ?_
                simp only [opsAt, List.filterMap_cons, List.filterMap_nil, List.getElem?_toArray, List.getElem?_cons_succ, List.getElem?_cons_zero]
                repeat (first | go_big_quiet_step (fail) | quiet_step (fail))
                refine wpQuiet_nil ?_
                clear p0 p1 y0 y1 i1 i2
                have u0 := S.out.get 1 0 rfl rfl
                have u1 := S.out.get 1 1 rfl rfl
                have u2 := S.out.free 1 0 rfl
                have u3 := S.out.free 1 1 rfl
                have hmin : ∃ m, min o1 (kl - n) = m ∧ (m = o1 ∧ o1 ≤ kl - n ∨ m = kl - n ∧ kl - n ≤ o1) := ⟨_, rfl, by omega⟩
                have hmax : ∃ m, max o2 (kh - n) = m ∧ (m = o2 ∧ kh - n ≤ o2 ∨ m = kh - n ∧ o2 ≤ kh - n) := ⟨_, rfl, by omega⟩
                obtain ⟨m1, hm1, hc1⟩ := hmin
                obtain ⟨m2, hm2, hc2⟩ := hmax
                rw [hm1, hm2] at HN2
                have HM := Lib.hid (And.intro hm1 hm2)
                have SX := Lib.hid (fun (y1 y2 : Int) (e1 : m1 = y1) (e2 : m2 = y2) => (show St w _ _ [.own 40 2 (.slice (some ⟨g4, 0, none⟩) N c4) N (spCells K2), .box w4.heap.size [I m1, I m2], .own 40 2 (.slice (some ⟨g3, 0, none⟩) N c3) N (spCells L), .box (w.heap.size + 1) [I 0, I 0], .box w.heap.size [I t.wells, .slice A1 t.snd.length c1, .slice A2 t.slp.length c2]] from (by have h := (S.out.set 1 0 (I y1) rfl).set 1 1 (I y2) rfl; rw [← e1, ← e2] at h ⊢; exact h) : St w ((w7.setCell ⟨w4.heap.size, 0, none⟩ (I y1)).setCell ⟨w4.heap.size, 1, none⟩ (I y2)) w7.heap.size _))
                clear hm1 hm2
                go_wp2_with fail
                all_goals
                  go_roundw
                  case rel => exact ⟨k + 1, by have := HNX.out; omega, congrArg I (show n + 1 = lo + ((k + 1 : Nat) : Int) by have := HNX.out; omega), Lib.hid (by
                      rw [HN2.out]
                      dsimp only
                      exact (SX.out _ _ (by split <;> omega) (by split <;> omega)).tail.fix)⟩
                  case measure => first | (simp [intOf]; done) | (simp [intOf]; omega)
              · rw [HS2.out] at hs
                cases hs
            · have hkn : k = (hi' + 1 - lo).toNat := by omega
              obtain ⟨⟨o1, o2⟩, ho⟩ : ∃ x, outN t a b lo k = x := ⟨_, rfl⟩
              rw [ho] at S
              have HE := Lib.hid (show differP t a b = (⟨o1, o2⟩, 0) by rw [HE1.out, ← hkn, ho])
              clear hkn ho
              have x0 := S.out.get 0 0 rfl rfl
              have x1 := S.out.get 0 1 rfl rfl
              have z0 := S.out.get 2 0 rfl rfl
              have z1 := S.out.get 2 1 rfl rfl
              have z2 := S.out.free 2 0 rfl
              have z3 := S.out.free 2 1 rfl
              have S2 := Lib.hid ((S.out.set 2 0 (I o1) rfl).set 2 1 (I o2) rfl)
              have r0 := S2.out.get 2 0 rfl rfl
              have r1 := S2.out.get 2 1 rfl rfl
              go_wp2_with fail
              refine bodyPost_ret (v := .tuple #[.agg #[I o1, I o2], I 0]) (by simp [results, Try.results45, go_sem, r0, r1]) rfl ⟨by rw [HE.out], S2.out.bel⟩
        · obtain ⟨er, her⟩ : ∃ x, openE t true = x := ⟨_, rfl⟩
          have hne : er ≠ 0 := by rw [← her]; exact ho
          have hnb := bne_iff_ne.2 hne
          have HER := Lib.hid her
          have HE := Lib.hid (show differP t a b = (⟨0, 0⟩, er) by unfold differP; rw [hwa, hwb, Bool.and_true, her, if_neg hne])
          have HNE := Lib.hid ho
          clear hwa hwb her hne ho
          go_enter Try.func45, Try.ntmps45
          go_wp2_with fail
          refine wp_region_seg [([0, 1, 2], 3), ([4, 5, 6], 7), ([8], 9)] [10, 11, 12, 13, 14] [] 15 (by kernel_rfl) (by kernel_rfl) ?_
          intro KQ hKQ w1 hb
          have S := Lib.hid (S.out.call hb)
          clear hb
          have k0 := cell_regrown (S.out.get 1 0 rfl rfl)
          have k1 := cell_regrown (S.out.get 1 1 rfl rfl)
          have k2 := cell_regrown (S.out.get 1 2 rfl rfl)
          refine seg_next ?_
          simp only [opsAt, List.filterMap_cons, List.filterMap_nil, List.getElem?_toArray, List.getElem?_cons_succ, List.getElem?_cons_zero]
          repeat (first | go_big_quiet_step (fail) | quiet_step (fail))
          refine wpQuiet_nil ?_
          intro K hK
          refine loud_op rfl rfl ?_
          go_simp
          refine (rIsWell_any _ _ _ _ _ hw0 hw6 ⟨_, _, _, rfl⟩ ⟨_, _, _, rfl⟩).mono ?_
          rintro e w2 ⟨rfl, hb⟩
          rw [HWA.out]
          have S := Lib.hid (S.out.call hb)
          refine hK _ _ hb ?_
          clear hK K hb k0 k1 k2
          have k0 := cell_regrown (S.out.get 1 0 rfl rfl)
          have k1 := cell_regrown (S.out.get 1 1 rfl rfl)
          have k2 := cell_regrown (S.out.get 1 2 rfl rfl)
          refine seg_next ?_
          simp only [opsAt, List.filterMap_cons, List.filterMap_nil, List.getElem?_toArray, List.getElem?_cons_succ, List.getElem?_cons_zero]
          repeat (first | go_big_quiet_step (fail) | quiet_step (fail))
          refine wpQuiet_nil ?_
          intro K hK
          refine loud_op rfl rfl ?_
          go_simp
          refine (rIsWell_any _ _ _ _ _ hw0 hw6 ⟨_, _, _, rfl⟩ ⟨_, _, _, rfl⟩).mono ?_
          rintro e w3 ⟨rfl, hb⟩
          rw [HWB.out]
          have S := Lib.hid (S.out.call hb)
          refine hK _ _ hb ?_
          clear hK K hb k0 k1 k2
          refine seg_next ?_
          simp only [opsAt, List.filterMap_cons, List.filterMap_nil, List.getElem?_toArray, List.getElem?_cons_succ, List.getElem?_cons_zero]
          repeat (first | go_big_quiet_step (fail) | quiet_step (fail))
          refine wpQuiet_nil ?_
          intro K hK
          refine loud_op rfl rfl ?_
          go_simp
          refine (known_no _ t _ _ ⟨_, _, rfl, HSN.out.below S.out.bel, HSP.out.below S.out.bel⟩ HNE.out).mono ?_
          rintro e w4 ⟨rfl, hb⟩
          rw [HER.out]
          have S := Lib.hid (S.out.call hb)
          refine hK _ _ hb ?_
          clear hK K hb
          refine seg_last ?_
          simp only [opsAt, List.filterMap_cons, List.filterMap_nil, List.getElem?_toArray, List.getElem?_cons_succ, List.getElem?_cons_zero]
          repeat (first | go_big_quiet_step (fail) | quiet_step (fail))
          refine wpQuiet_nil ?_
          have z0 := S.out.get 0 0 rfl rfl
          have z1 := S.out.get 0 1 rfl rfl
          have z2 := S.out.free 0 0 rfl
          have z3 := S.out.free 0 1 rfl
          have S2 := Lib.hid ((S.out.set 0 0 (I 0) rfl).set 0 1 (I 0) rfl)
          have r0 := S2.out.get 0 0 rfl rfl
          have r1 := S2.out.get 0 1 rfl rfl
          go_wp2_with fail
          refine bodyPost_ret (v := .tuple #[.agg #[I 0, I 0], I er]) (by simp [results, Try.results45, go_sem, r0, r1]) rfl ⟨by rw [HE.out], S2.out.bel⟩

set_option maxRecDepth 20000 in
set_option maxHeartbeats 4000000 in
theorem rHigher_any (v : Value) (t : Twn) (a b : Int) (w : World) (hv : TwnAt w v t) :
    Calls Try.prog 47 #[v, I a, I b] w fun e w' => e = .returned (.tuple #[I (higherP t a b).1, I (higherP t a b).2]) ∧ Below w.heap.size w w' := by
  obtain ⟨sv, pv, rfl, hs, hp⟩ := hv
  have HSN := Lib.hid hs
  have HSP := Lib.hid hp
  obtain ⟨A1, c1, rfl, -, -, -⟩ := id hs.open_
  obtain ⟨A2, c2, rfl, -, -, -⟩ := id hp.open_
  clear hs hp
  have S := Lib.hid (show St w (w.alloc (.cells #[I t.wells, .slice A1 t.snd.length c1, .slice A2 t.slp.length c2] 25)) (w.heap.size + 1) [.box w.heap.size [I t.wells, .slice A1 t.snd.length c1, .slice A2 t.slp.length c2]] from (St.init w).alloc [I t.wells, .slice A1 t.snd.length c1, .slice A2 t.slp.length c2] 25)
  have q0 := S.out.get 0 0 rfl rfl
  have q1 := S.out.get 0 1 rfl rfl
  have q2 := S.out.get 0 2 rfl rfl
  obtain ⟨⟨⟨lo, hi⟩, er⟩, hd⟩ : ∃ p, differP t b a = p := ⟨_, rfl⟩
  have HD := Lib.hid hd
  have he : higherP t a b = if er ≠ 0 then (0, er) else if 0 < lo then (1, 0) else if hi ≤ 0 then (2, 0) else (3, 0) := by unfold higherP; rw [hd]
  have HE := Lib.hid he
  clear hd he
  cases h : er == 0
  · have HE := Lib.hid (HE.out.trans (if_pos (by simpa using h)))
    have h' : (er != 0) = true := by simpa using h
    clear h
    go_enter Try.func47, Try.ntmps47
    go_wp2_with fail
    clear q0 q1 q2
    refine (rDiffer_any _ t b a _ ⟨_, _, rfl, HSN.out.below S.out.bel, HSP.out.below S.out.bel⟩).mono ?_
    rintro e w1 ⟨he, hb⟩
    rw [HD.out] at he
    subst he
    have S := Lib.hid (S.out.call hb)
    clear hb
    go_wp2_with fail
    go_ret2
    exact ⟨by rw [HE.out]; rfl, S.out.bel.alloc S.out.bel.size _⟩
  · obtain rfl : er = 0 := by simpa using h
    clear h
    have HE := Lib.hid (HE.out.trans (if_neg (by simp)))
    by_cases h1 : 0 < lo
    · have HE := Lib.hid (HE.out.trans (if_pos h1))
      go_enter Try.func47, Try.ntmps47
      go_wp2_with fail
      clear q0 q1 q2
      refine (rDiffer_any _ t b a _ ⟨_, _, rfl, HSN.out.below S.out.bel, HSP.out.below S.out.bel⟩).mono ?_
      rintro e w1 ⟨he, hb⟩
      rw [HD.out] at he
      subst he
      have S := Lib.hid (S.out.call hb)
      clear hb
      go_wp2_with fail
      go_ret2
      exact ⟨by rw [HE.out]; rfl, S.out.bel.alloc S.out.bel.size _⟩
    · have HE := Lib.hid (HE.out.trans (if_neg h1))
      by_cases h2 : hi ≤ 0
      · have HE := Lib.hid (HE.out.trans (if_pos h2))
        go_enter Try.func47, Try.ntmps47
        go_wp2_with fail
        clear q0 q1 q2
        refine (rDiffer_any _ t b a _ ⟨_, _, rfl, HSN.out.below S.out.bel, HSP.out.below S.out.bel⟩).mono ?_
        rintro e w1 ⟨he, hb⟩
        rw [HD.out] at he
        subst he
        have S := Lib.hid (S.out.call hb)
        clear hb
        go_wp2_with fail
        go_ret2
        exact ⟨by rw [HE.out]; rfl, S.out.bel.alloc S.out.bel.size _⟩
      · have HE := Lib.hid (HE.out.trans (if_neg h2))
        go_enter Try.func47, Try.ntmps47
        go_wp2_with fail
        clear q0 q1 q2
        refine (rDiffer_any _ t b a _ ⟨_, _, rfl, HSN.out.below S.out.bel, HSP.out.below S.out.bel⟩).mono ?_
        rintro e w1 ⟨he, hb⟩
        rw [HD.out] at he
        subst he
        have S := Lib.hid (S.out.call hb)
        clear hb
        go_wp2_with fail
        go_ret2
        exact ⟨by rw [HE.out]; rfl, S.out.bel.alloc S.out.bel.size _⟩

end Go.Proofs.Ytplbaijdnpfdgaa
