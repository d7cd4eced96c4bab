/- Walks of Paid and of the reference's Paid. -/
import Derived.Test.YtbddaemekgflmaaW30
namespace Go.Proofs.Ytbddaemekgflmaa
open Go.RowKit Go.Sort

set_option maxRecDepth 20000 in
set_option maxHeartbeats 2000000 in
theorem rPaid_any (v : Value) (d : DLine) (s : Int) (w : World) (hv : LineAt w v d) (hlen : d.odds.length ≤ 1000) (hlen' : d.pts.length ≤ 1000) :
    Calls Try.prog 43 #[v, I s] w fun e w' => e = .returned (.tuple #[I (paidR d s).1, I (paidR d s).2]) ∧ Below w.heap.size w w' := by
  have HV := Lib.hid hv
  obtain ⟨pv, ov, rfl, hp, ho⟩ := hv
  have hb0 : ∀ x, Below w.heap.size w (w.alloc x) := fun x => (Below.refl _ _).alloc (Nat.le_refl _) _
  clear hp ho
  have B0 := Box2.new w pv ov 25
  obtain ⟨⟨L, er⟩, hP⟩ : ∃ r, pathR d s = r := ⟨_, rfl⟩
  have HP := Lib.hid hP
  by_cases h0 : er = 0
  · have hok := pathR_ok (d := d) (s := s) (by rw [hP]; exact h0)
    rw [hP] at hok
    have HOK := Lib.hid hok
    have HR := Lib.hid (show paidR d s = (sumCost d L, 0) by unfold paidR; rw [hP, if_pos h0])
    have hl7 : L.length ≤ 1000 := by have := hok.2.2.2; simp only at this; omega
    subst h0
    clear hP hok
    go_enter Try.func43, Try.ntmps43
    go_wp2_with (first | (go_at_call 41; refine (rPath_any _ d _ _ (HV.out.below (hb0 _)) hlen hlen').mono ?_; rintro e w1 ⟨lv, rfl, hl, hb⟩; rw [HP.out] at hl; rw [HP.out]; have HL := Lib.hid hl; have HB1 := Lib.hid (bto (hb0 _) hb); obtain ⟨x0, x1, x2, x3⟩ := B0.keep hb; clear hl hb) | (go_at_call 54; refine (costOf_any _ _ d L _ (HV.out.below HB1.out) HL.out HOK.out.1 HOK.out.2.2.1 hl7).mono ?_; rintro e w2 ⟨rfl, hb⟩; have HB2 := Lib.hid (bto HB1.out hb); clear hb))
    go_ret2
    exact ⟨by rw [HR.out]; rfl, HB2.out⟩
  · have HR := Lib.hid (show paidR d s = (0, er) by unfold paidR; rw [hP, if_neg h0])
    have h0' : (er != 0) = true := by simpa using h0
    clear hP h0
    go_enter Try.func43, Try.ntmps43
    go_wp2_with (first | (go_at_call 41; refine (rPath_any _ d _ _ (HV.out.below (hb0 _)) hlen hlen').mono ?_; rintro e w1 ⟨lv, rfl, hl, hb⟩; rw [HP.out]; have HB1 := Lib.hid (bto (hb0 _) hb); clear hl hb))
    go_ret2
    exact ⟨by rw [HR.out]; rfl, HB1.out⟩

set_option maxRecDepth 20000 in
set_option maxHeartbeats 2000000 in
theorem paid_any (v : Value) (d : DLine) (s : Int) (w : World) (hv : LineAt w v d) (hlen : d.odds.length ≤ 1000) :
    Calls Try.prog 42 #[v, I s] w fun e w' => e = .returned (.tuple #[I (paidR d s).1, I (paidR d s).2]) ∧ Below w.heap.size w w' := by
  have HV := Lib.hid hv
  obtain ⟨pv, ov, rfl, hp, ho⟩ := hv
  obtain ⟨A', c2, rfl, hac', hcm', hpc⟩ := id hp.open_
  have HPC := Lib.hid hpc
  have hb0 : ∀ x, Below w.heap.size w (w.alloc x) := fun x => (Below.refl _ _).alloc (Nat.le_refl _) _
  clear hp ho hpc
  have B0 := Box2.new w (.slice A' d.pts.length c2) ov 25
  obtain ⟨⟨L, er⟩, hP⟩ : ∃ r, pathR d s = r := ⟨_, rfl⟩
  have HP := Lib.hid hP
  by_cases h0 : er = 0
  · have hok := pathR_ok (d := d) (s := s) (by rw [hP]; exact h0)
    rw [hP] at hok
    have HOK := Lib.hid hok
    have HR := Lib.hid (show paidR d s = (sumCost d L, 0) by unfold paidR; rw [hP, if_pos h0])
    have hl7 : L.length ≤ 7 := hok.2.2.2
    subst h0
    clear hP hok
    go_enter Try.func42, Try.ntmps42
    go_wp2_with (go_at_call 40; refine (path_any _ d _ _ (HV.out.below (hb0 _)) hlen).mono ?_; rintro e w1 ⟨lv, rfl, hl, hb⟩; rw [HP.out] at hl; rw [HP.out]; obtain ⟨Al, cl, rfl, hal, hcl, hlc⟩ := id hl.open_; have HLC := Lib.hid hlc; have HB1 := Lib.hid (bto (hb0 _) hb); obtain ⟨x0, x1, x2, x3⟩ := B0.keep hb; clear hl hb hlc B0)
    go_loop [8, 10, 22] (fun s _ i => ∃ k : Nat, k ≤ L.length ∧ i = I k ∧ s = I (sumCost d (L.take k))) (fun _ _ i => L.length - (intOf i).toNat)
    case atStart => exact ⟨0, by omega, rfl, rfl⟩
    case round =>
      obtain ⟨k, hk, rfl, rfl⟩ := hrel
      by_cases hlt : k < L.length
      · obtain ⟨y0, y1⟩ := HOK.out.2.2.1 _ (List.getElem_mem hlt)
        obtain ⟨b1, o1, e1, _, hc1⟩ := HLC.out (by omega)
        have z0 := hc1 k hlt
        have HS := Lib.hid (show sumCost d (L.take (k + 1)) = sumCost d (L.take k) + costAt d L[k].toNat by rw [List.take_succ_eq_append_getElem hlt, sumCost_snoc])
        have bs := sumCost_bd HOK.out.1 (L.take k)
        have hln : (L.take k).length = k := by simp; omega
        rw [hln] at bs
        obtain ⟨q, hq⟩ := Int.eq_ofNat_of_zero_le y0
        rw [hq] at z0 y1 HS
        rw [Int.toNat_natCast] at HS
        have hql : q < d.pts.length := by omega
        obtain ⟨b2, o2, e2, _, hc2⟩ := HPC.out (by omega)
        have z1 := keep_cell HB1.out (hc2 q hql).2.2
        have hce : costAt d q = d.pts[q].cost := by unfold costAt; rw [List.getElem?_eq_getElem hql]; rfl
        have bc := costAt_bd HOK.out.1 q
        rw [← hce] at z1
        obtain ⟨C, hC⟩ : ∃ C, costAt d q = C := ⟨_, rfl⟩
        obtain ⟨S, hS⟩ : ∃ S, sumCost d (L.take k) = S := ⟨_, rfl⟩
        rw [hC] at z1 bc HS
        rw [hS] at bs HS ⊢
        obtain ⟨bs1, bs2⟩ := bs
        obtain ⟨bc1, bc2⟩ := bc
        subst e1
        subst e2
        have i1 : (k : Int) < (L.length : Int) := by omega
        have i2 : (q : Int) < (d.pts.length : Int) := by omega
        clear hc1 hc2 hce hC hS hq hln y0
        go_wp2_with fail
        go_round
        case rel => exact ⟨k + 1, by omega, by go_num, by rw [HS.out]⟩
        case measure => first | (simp [intOf]; done) | (simp [intOf]; omega)
      · have HK := Lib.hid (show L.take k = L from List.take_of_length_le (by omega))
        go_wp2_with fail
        go_ret2
        exact ⟨by rw [HR.out, HK.out]; rfl, HB1.out⟩
  · have HR := Lib.hid (show paidR d s = (0, er) by unfold paidR; rw [hP, if_neg h0])
    have h0' : (er != 0) = true := by simpa using h0
    clear hP h0
    go_enter Try.func42, Try.ntmps42
    go_wp2_with (go_at_call 40; refine (path_any _ d _ _ (HV.out.below (hb0 _)) hlen).mono ?_; rintro e w1 ⟨lv, rfl, hl, hb⟩; rw [HP.out]; have HB1 := Lib.hid (bto (hb0 _) hb); clear hl hb)
    go_ret2
    exact ⟨by rw [HR.out]; rfl, HB1.out⟩
end Go.Proofs.Ytbddaemekgflmaa
