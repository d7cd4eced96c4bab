/- Walk of Average. -/
import Derived.Test.YtbddaemekgflmaaW8
import Derived.Test.YtbddaemekgflmaaSeg
namespace Go.Proofs.Ytbddaemekgflmaa
open Go.RowKit Go.Sort

/-- A fraction in lowest terms. -/
def redR (num den : Int) : Int × Int := (num / (Nat.gcd num.toNat den.toNat : Nat), den / (Nat.gcd num.toNat den.toNat : Nat))
/-- What Average returns. -/
def avgR (d : DLine) (f t : Int) : (Int × Int) × Int := if askE d (someOf d f t) = 0 then (redR (avgN d f.toNat t.toNat) (oddsOf d f.toNat t.toNat), 0) else ((0, 0), askE d (someOf d f t))
theorem sumI_pos : ∀ (l : List Int), l ≠ [] → (∀ x ∈ l, 1 ≤ x) → 1 ≤ sumI l
  | [], h, _ => absurd rfl h
  | [x], _, h => by have := h x (by simp); simp [sumI]; omega
  | x :: y :: l, _, h => by
    have h1 := h x (by simp)
    have h2 := sumI_pos (y :: l) (by simp) (fun z hz => h z (by simp at hz ⊢; right; exact hz))
    simp only [sumI] at h2 ⊢
    omega
theorem oddsOf_pos {d : DLine} (h : valid d = true) {f t : Nat} (hf : f < t) (ht : t ≤ d.odds.length) : 1 ≤ oddsOf d f t ∧ oddsOf d f t ≤ 63 := by
  have h3 := (valid_spec h).1
  have h2 := oddsOf_bd d f t (fun x hx => by have := (valid_spec h).2.2.2 x hx; omega)
  refine ⟨?_, by omega⟩
  refine sumI_pos _ ?_ (fun x hx => ((valid_spec h).2.2.2 x (List.mem_of_mem_drop (List.mem_of_mem_take hx))).1)
  intro he
  have := congrArg List.length he
  simp at this
  omega

set_option maxRecDepth 20000 in
set_option maxHeartbeats 2000000 in
theorem avg_any (v : Value) (d : DLine) (f t : Int) (w : World) (hv : LineAt w v d) (hlen : d.odds.length ≤ 1000) :
    Calls Try.prog 21 #[v, I f, I t] w fun e w' => e = .returned (.tuple #[.agg #[I (avgR d f t).1.1, I (avgR d f t).1.2], I (avgR d f t).2]) ∧ Below w.heap.size w w' := by
  have HV := Lib.hid hv
  obtain ⟨pv, ov, rfl, hp, ho⟩ := hv
  have hb0 : ∀ x y, Below w.heap.size w ((w.alloc x).alloc y) := fun x y => ((Below.refl _ _).alloc (Nat.le_refl _) _).alloc (by simp) _
  clear hp ho
  have k0 := cell_regrown (box_old _ (.cells #[I 0, I 0] 41) (box_cell w #[pv, ov] 25 0 rfl))
  have k1 := cell_regrown (box_old _ (.cells #[I 0, I 0] 41) (box_cell w #[pv, ov] 25 1 rfl))
  have c1 := ext_call (w := (w.alloc (.cells #[pv, ov] 25)).alloc (.cells #[I 0, I 0] 41)) fun W hW => areSt_any _ d f t W (HV.out.below (bto (hb0 _ _) hW))
  have c2 := ext_call (w := (w.alloc (.cells #[pv, ov] 25)).alloc (.cells #[I 0, I 0] 41)) fun W hW => ask_any _ d (someOf d f t) W (HV.out.below (bto (hb0 _ _) hW)) hlen
  by_cases h0 : askE d (someOf d f t) = 0
  · obtain ⟨hvd, hso⟩ := askE_ok h0
    obtain ⟨hf0, hft, htn⟩ := someOf_spec hso
    rw [h0] at c2
    obtain ⟨hn, -⟩ := valid_spec hvd
    have HSO := Lib.hid hso
    have HVD := Lib.hid hvd
    have hR : avgR d f t = (redR (avgN d f.toNat t.toNat) (oddsOf d f.toNat t.toNat), 0) := by unfold avgR; rw [if_pos h0]
    rw [hR]
    clear h0 hso hvd hR
    obtain ⟨f, rfl⟩ := Int.eq_ofNat_of_zero_le hf0
    obtain ⟨t, rfl⟩ := Int.eq_ofNat_of_zero_le (show 0 ≤ t by omega)
    simp only [Int.toNat_natCast]
    obtain ⟨ho1, ho2⟩ := oddsOf_pos HVD.out (f := f) (t := t) (by omega) (by omega)
    obtain ⟨ha1, ha2⟩ := tab_small (sum_small HVD.out) (t - f) f (by omega)
    have ha3 : (tab (sumP d) (t - f) f).1 ≤ 8820 := by omega
    obtain ⟨N, hN⟩ := Int.eq_ofNat_of_zero_le ha1
    obtain ⟨M, hM⟩ := Int.eq_ofNat_of_zero_le (show 0 ≤ oddsOf d f t by omega)
    have hav : avgN d f t = N := hN
    rw [hav, hM]
    rw [hN] at ha3
    rw [hM] at ho1 ho2
    have HN := Lib.hid hN
    have HM := Lib.hid hM
    clear ha1 ha2 hN hM hav
    have hf8 : (f : Int) < 8 := by omega
    have ht8 : (t : Int) < 8 := by omega
    have hf1 : 0 ≤ (f : Int) := by omega
    have ht1 : 0 ≤ (t : Int) := by omega
    go_enter Try.func21, Try.ntmps21
    go_wp2_with fail
    refine wp_region_ext (by kernel_rfl) (by kernel_rfl) ?_
    repeat (first | go_big_quiet_step (first | exact c1 _ _ | exact c2 _ _) | quiet_step (first | exact c1 _ _ | exact c2 _ _))
    refine wpQuiet_nil ?_
    clear c1 c2 k0 k1
    intro w1 hb1
    have q0 := keep_cell hb1 (box_old _ (.cells #[I 0, I 0] 41) (box_cell w #[pv, ov] 25 0 rfl))
    have q2 := keep_cell hb1 (box_cell (w.alloc (.cells #[pv, ov] 25)) #[I 0, I 0] 41 0 rfl)
    have q3 := keep_cell hb1 (box_cell (w.alloc (.cells #[pv, ov] 25)) #[I 0, I 0] 41 1 rfl)
    have hz1 : w.heap.size + 1 < w1.heap.size := by have := hb1.size; simp at this; omega
    have q4 := (bcell hb1).2 (w.heap.size + 1) 0 (by simp)
    have q5 := (bcell hb1).2 (w.heap.size + 1) 1 (by simp)
    have q1 := keep_cell hb1 (box_old _ (.cells #[I 0, I 0] 41) (box_cell w #[pv, ov] 25 1 rfl))
    go_wp2_with fail
    refine wp_region_seg [([0, 1, 2, 3, 5, 6, 12, 13, 14], 4), ([7, 8, 9, 10, 11], 15)] [16] [17] 17 (by kernel_rfl) (by kernel_rfl) ?_
    intro KQ hKQ w2 hb2
    have k0 := cell_regrown (keep_cell hb2 q0)
    have k1 := cell_regrown (keep_cell hb2 q1)
    refine seg_next ?_
    simp only [opsAt, List.filterMap_cons, List.filterMap_nil, List.getElem?_toArray, List.getElem?_cons_succ, List.getElem?_cons_zero]
    repeat (first | go_big_quiet_step (fail) | quiet_step (fail))
    refine wpQuiet_nil ?_
    intro K hK
    refine loud_op rfl rfl ?_
    go_simp
    refine (reckS_any _ d _ (HV.out.below (bto (hb0 _ _) (bto hb1 hb2))) HVD.out).mono ?_
    rintro e w3 ⟨T, rfl, hT, hb3⟩
    have hT1 := (hT f t (by omega) (by omega)).1
    rw [entF_eq _ _ _ _ (by omega) (by omega), HN.out] at hT1
    clear hT k0 k1
    refine hK _ _ hb3 ?_
    clear hK K
    have k3 := cell_regrown hT1
    refine seg_next ?_
    simp only [opsAt, List.filterMap_cons, List.filterMap_nil, List.getElem?_toArray, List.getElem?_cons_succ, List.getElem?_cons_zero]
    repeat (first | go_big_quiet_step (fail) | quiet_step (fail))
    refine wpQuiet_nil ?_
    clear k3
    intro K hK
    refine loud_op rfl rfl ?_
    go_simp
    refine (odds_any _ d f t _ (HV.out.below (bto (hb0 _ _) (bto hb1 (bto hb2 hb3)))) (by omega) (by omega) (by omega) (fun x hx => by have := (valid_spec HVD.out).2.2.2 x hx; omega) hlen).mono ?_
    rintro e w4 ⟨rfl, hb4⟩
    refine hK _ _ hb4 ?_
    clear hK K
    simp only [Int.toNat_natCast, HM.out]
    refine seg_last ?_
    simp only [opsAt, List.filterMap_cons, List.filterMap_nil, List.getElem?_toArray, List.getElem?_cons_succ, List.getElem?_cons_zero]
    repeat (first | go_big_quiet_step (fail) | quiet_step (fail))
    refine wpQuiet_nil ?_
    have HB3 := Lib.hid (bto (hb0 (.cells #[pv, ov] 25) (.cells #[I 0, I 0] 41)) (bto hb1 (bto hb2 (bto hb3 hb4))))
    have q2 := keep_cell hb4 (keep_cell hb3 (keep_cell hb2 q2))
    have q3 := keep_cell hb4 (keep_cell hb3 (keep_cell hb2 q3))
    have hz4 : w.heap.size + 1 < w4.heap.size := by have := hb2.size; have := hb3.size; have := hb4.size; omega
    have q4 : w4.frozen? ⟨w.heap.size + 1, 0, none⟩ = false := by
      rw [(bcell hb4).2 _ _ (by have := hb3.size; have := hb2.size; omega), (bcell hb3).2 _ _ (by have := hb2.size; omega), (bcell hb2).2 _ _ (by omega), q4]; simp [go_sem]
    have q5 : w4.frozen? ⟨w.heap.size + 1, 1, none⟩ = false := by
      rw [(bcell hb4).2 _ _ (by have := hb3.size; have := hb2.size; omega), (bcell hb3).2 _ _ (by have := hb2.size; omega), (bcell hb2).2 _ _ (by omega), q5]; simp [go_sem]
    clear hb1 hb2 hb3 hb4 q0 q1 hT1
    simp at q2 q3
    go_wp2_with fail
    go_loopw [11, 12] (fun x y wr => ∃ a b : Nat, x = I a ∧ y = I b ∧ Hid (Nat.gcd a b = Nat.gcd N M) ∧ (0 < a ∨ 0 < b) ∧ a ≤ 8820 ∧ b ≤ 8820 ∧ Below w4.heap.size w4 wr) (fun _ y _ => (intOf y).toNat)
    case atStart => exact ⟨N, M, rfl, rfl, Lib.hid rfl, by omega, by omega, by omega, Below.refl _ _⟩
    case round =>
      obtain ⟨a, b, rfl, rfl, hg, hab, ha, hb, hbw⟩ := hrel
      by_cases h0 : b = 0
      · subst h0
        have hga : a = Nat.gcd N M := by have := hg.out; simpa using this
        have HG := Lib.hid hga
        have q6 := (hbw.cell (p := ⟨w.heap.size + 1, 0, none⟩) (by simpa using hz4)).trans q2
        have q7 := (hbw.cell (p := ⟨w.heap.size + 1, 1, none⟩) (by simpa using hz4)).trans q3
        have q8 := (hbw.frozen (p := ⟨w.heap.size + 1, 0, none⟩) (by simpa using hz4)).trans q4
        have q9 := (hbw.frozen (p := ⟨w.heap.size + 1, 1, none⟩) (by simpa using hz4)).trans q5
        have HW := Lib.hid hbw
        have ha0 : 0 < a := by omega
        have hd1 : 0 ≤ (N : Int) / (a : Int) ∧ (N : Int) / (a : Int) ≤ 8820 := ⟨Int.ediv_nonneg (by omega) (by omega), Int.le_trans (Int.ediv_le_self _ (by omega)) (by omega)⟩
        have hd2 : 0 ≤ (M : Int) / (a : Int) ∧ (M : Int) / (a : Int) ≤ 8820 := ⟨Int.ediv_nonneg (by omega) (by omega), Int.le_trans (Int.ediv_le_self _ (by omega)) (by omega)⟩
        obtain ⟨d1, d2⟩ := hd1
        obtain ⟨d3, d4⟩ := hd2
        clear hga hbw q2 q3 q4 q5
        go_wp2_with fail
        go_region
        go_wp2_with fail
        have r1 : ∀ v1, (wr.setCell ⟨w.heap.size + 1, 0, none⟩ v1).cell? ⟨w.heap.size + 1, 0, none⟩ = some v1 := fun v1 => World.cell?_setCell_same _ _ _ q6
        have r2 : ∀ v1 v2, ((wr.setCell ⟨w.heap.size + 1, 0, none⟩ v1).setCell ⟨w.heap.size + 1, 1, none⟩ v2).cell? ⟨w.heap.size + 1, 1, none⟩ = some v2 := fun v1 v2 => World.cell?_setCell_same _ _ _ (by rw [World.cell?_setCell_other _ _ _ _ (by simp)]; exact q7)
        refine bodyPost_ret (v := .tuple #[.agg #[I ((N : Int) / (a : Int)), I ((M : Int) / (a : Int))], I 0]) (by simp [results, Try.results21, go_sem, r1, r2]) rfl ⟨?_, ?_⟩
        · unfold redR
          simp only [Int.toNat_natCast]
          rw [← HG.out]
        · exact ((((bto HB3.out HW.out).setCell (p := ⟨w.heap.size + 1, 0, none⟩) (by simp) _).setCell (p := ⟨w.heap.size + 1, 1, none⟩) (by simp) _).drew)
      · have h0' : ((b : Int) != 0) = true := by simp; omega
        go_wp2_with fail
        refine wp_region_ext (by kernel_rfl) (by kernel_rfl) ?_
        repeat (first | go_big_quiet_step (fail) | quiet_step (fail))
        refine wpQuiet_nil ?_
        intro w5 hb5
        go_wp2_with fail
        go_roundw
        case rel => exact ⟨b, a % b, rfl, by go_num, Lib.hid (by rw [← hg.out, Nat.gcd_comm a b, Nat.gcd_rec b a, Nat.gcd_comm]), by omega, by omega, by have := Nat.mod_lt a (show 0 < b by omega); omega, bto hbw hb5⟩
        case measure =>
          have := Nat.mod_lt a (show 0 < b by omega)
          simp [intOf]; omega
  · have hR : avgR d f t = ((0, 0), askE d (someOf d f t)) := by unfold avgR; rw [if_neg h0]
    rw [hR]
    have h0' : (askE d (someOf d f t) != 0) = true := by simpa using h0
    clear hR h0
    go_enter Try.func21, Try.ntmps21
    go_wp2_with fail
    refine wp_region_ext (by kernel_rfl) (by kernel_rfl) ?_
    repeat (first | go_big_quiet_step (first | exact c1 _ _ | exact c2 _ _) | quiet_step (first | exact c1 _ _ | exact c2 _ _))
    refine wpQuiet_nil ?_
    clear c1 c2 k0 k1
    intro w1 hb1
    have q2 := keep_cell hb1 (box_cell (w.alloc (.cells #[pv, ov] 25)) #[I 0, I 0] 41 0 rfl)
    have q3 := keep_cell hb1 (box_cell (w.alloc (.cells #[pv, ov] 25)) #[I 0, I 0] 41 1 rfl)
    have q4 := (bcell hb1).2 (w.heap.size + 1) 0 (by simp)
    have q5 := (bcell hb1).2 (w.heap.size + 1) 1 (by simp)
    simp [go_sem] at q2 q3 q4 q5
    go_wp2_with fail
    have r1 : ∀ v1, (w1.setCell ⟨w.heap.size + 1, 0, none⟩ v1).cell? ⟨w.heap.size + 1, 0, none⟩ = some v1 := fun v1 => World.cell?_setCell_same _ _ _ q2
    have r2 : ∀ v1 v2, ((w1.setCell ⟨w.heap.size + 1, 0, none⟩ v1).setCell ⟨w.heap.size + 1, 1, none⟩ v2).cell? ⟨w.heap.size + 1, 1, none⟩ = some v2 := fun v1 v2 => World.cell?_setCell_same _ _ _ (by rw [World.cell?_setCell_other _ _ _ _ (by simp)]; exact q3)
    refine bodyPost_ret (v := .tuple #[.agg #[I 0, I 0], I (askE d (someOf d f t))]) (by simp [results, Try.results21, go_sem, r1, r2]) rfl ⟨rfl, ?_⟩
    exact (((bto (hb0 _ _) hb1).setCell (p := ⟨w.heap.size + 1, 0, none⟩) (by simp) _).setCell (p := ⟨w.heap.size + 1, 1, none⟩) (by simp) _)
end Go.Proofs.Ytbddaemekgflmaa
