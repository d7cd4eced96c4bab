/- Walks of Check, ask, areStretches, isStretch, isPoint, odds of the program. -/
import Derived.Test.YtbddaemekgflmaaW1
namespace Go.Proofs.Ytbddaemekgflmaa
open Go.RowKit

set_option maxHeartbeats 1000000 in
theorem check_any (v : Value) (d : DLine) (w : World) (hv : LineAt w v d) (hlen : d.odds.length ≤ 1000) :
    Calls Try.prog 32 #[v] w fun e w' => e = .returned (I (chk d)) ∧ Below w.heap.size w w' := by
  obtain ⟨pv, ov, rfl, hp, ho⟩ := hv
  obtain ⟨A, c, rfl, _, _, _⟩ := ho.open_
  obtain ⟨A', c', rfl, _, _, _⟩ := hp.open_
  have hb0 : ∀ x, Below w.heap.size w (w.alloc x) := fun x => (Below.refl _ _).alloc (Nat.le_refl _) _
  have HP := Lib.hid hp; clear hp
  have HO := Lib.hid ho; clear ho
  by_cases h1 : 7 < d.odds.length
  · go_enter Try.func32, Try.ntmps32
    go_wp2_with fail
    go_ret
    exact ⟨by simp [chk, valid]; omega, hb0 _⟩
  · cases h2 : d.odds.any badOdds
    · by_cases h3 : d.pts.length = d.odds.length + 1
      · have H3 := Lib.hid h3
        have h3' : ((d.pts.length : Int) != (d.odds.length : Int) + 1) = false := by simp; omega
        clear h3
        cases h4 : d.pts.any badPt
        · go_enter Try.func32, Try.ntmps32
          go_wp2_with (first | (go_at_call 72; refine (containsOdds_any _ _ _ (HO.out.below (hb0 _))).mono ?_; rintro e w1 ⟨rfl, hb1⟩; obtain ⟨hc1, hf1⟩ := bcell hb1) | (go_at_call 73; refine (containsPts_any _ _ _ (HP.out.below (bto (hb0 _) hb1))).mono ?_; rintro e w2 ⟨rfl, hb2⟩))
          go_ret
          exact ⟨by have := H3.out; simp [chk, valid, h2, h4, this]; omega, bto (hb0 _) (bto hb1 hb2)⟩
        · go_enter Try.func32, Try.ntmps32
          go_wp2_with (first | (go_at_call 72; refine (containsOdds_any _ _ _ (HO.out.below (hb0 _))).mono ?_; rintro e w1 ⟨rfl, hb1⟩; obtain ⟨hc1, hf1⟩ := bcell hb1) | (go_at_call 73; refine (containsPts_any _ _ _ (HP.out.below (bto (hb0 _) hb1))).mono ?_; rintro e w2 ⟨rfl, hb2⟩))
          go_ret
          exact ⟨by simp [chk, valid, h4], bto (hb0 _) (bto hb1 hb2)⟩
      · have h3' : ((d.pts.length : Int) != (d.odds.length : Int) + 1) = true := by simp; omega
        go_enter Try.func32, Try.ntmps32
        go_wp2_with (go_at_call 72; refine (containsOdds_any _ _ _ (HO.out.below (hb0 _))).mono ?_; rintro e w1 ⟨rfl, hb1⟩; obtain ⟨hc1, hf1⟩ := bcell hb1)
        go_ret
        exact ⟨by simp [chk, valid, h3], bto (hb0 _) hb1⟩
    · go_enter Try.func32, Try.ntmps32
      go_wp2_with (go_at_call 72; refine (containsOdds_any _ _ _ (HO.out.below (hb0 _))).mono ?_; rintro e w1 ⟨rfl, hb1⟩; obtain ⟨hc1, hf1⟩ := bcell hb1)
      go_ret
      exact ⟨by simp [chk, valid, h2], bto (hb0 _) hb1⟩

set_option maxHeartbeats 400000 in
theorem ask_any (v : Value) (d : DLine) (is : Bool) (w : World) (hv : LineAt w v d) (hlen : d.odds.length ≤ 1000) :
    Calls Try.prog 58 #[v, .bool is] w fun e w' => e = .returned (I (askE d is)) ∧ Below w.heap.size w w' := by
  have hv0 := hv
  obtain ⟨pv, ov, rfl, hp, ho⟩ := hv
  have hb0 : ∀ x, Below w.heap.size w (w.alloc x) := fun x => (Below.refl _ _).alloc (Nat.le_refl _) _
  have HV := Lib.hid hv0; clear hv0 hp ho
  cases h1 : valid d
  · have h2 : chk d = 60 := by simp [chk, h1]
    go_enter Try.func58, Try.ntmps58
    go_wp2_with (go_at_call 32; refine (check_any _ _ _ (HV.out.below (hb0 _)) hlen).mono ?_; rintro e w1 ⟨rfl, hb1⟩)
    go_ret
    exact ⟨by simp [askE, h1], bto (hb0 _) hb1⟩
  · have h2 : chk d = 0 := by simp [chk, h1]
    cases is
    · go_enter Try.func58, Try.ntmps58
      go_wp2_with (go_at_call 32; refine (check_any _ _ _ (HV.out.below (hb0 _)) hlen).mono ?_; rintro e w1 ⟨rfl, hb1⟩)
      go_ret
      exact ⟨by simp [askE, h1], bto (hb0 _) hb1⟩
    · go_enter Try.func58, Try.ntmps58
      go_wp2_with (go_at_call 32; refine (check_any _ _ _ (HV.out.below (hb0 _)) hlen).mono ?_; rintro e w1 ⟨rfl, hb1⟩)
      go_ret
      exact ⟨by simp [askE, h1], bto (hb0 _) hb1⟩

set_option maxHeartbeats 400000 in
theorem areSt_any (v : Value) (d : DLine) (f t : Int) (w : World) (hv : LineAt w v d) :
    Calls Try.prog 59 #[v, I f, I t] w fun e w' => e = .returned (.bool (someOf d f t)) ∧ Below w.heap.size w w' := by
  obtain ⟨pv, ov, rfl, hp, ho⟩ := hv
  obtain ⟨A, c, rfl, _, _, _⟩ := ho.open_
  have hb0 : ∀ x, Below w.heap.size w (w.alloc x) := fun x => (Below.refl _ _).alloc (Nat.le_refl _) _
  clear hp ho
  by_cases h1 : 0 ≤ f
  · by_cases h2 : f < t
    · by_cases h3 : t ≤ d.odds.length
      · go_enter Try.func59, Try.ntmps59
        go_wp2_with fail
        go_ret
        exact ⟨by simp [someOf, h1, h2, h3], hb0 _⟩
      · go_enter Try.func59, Try.ntmps59
        go_wp2_with fail
        go_ret
        exact ⟨by simp [someOf]; omega, hb0 _⟩
    · go_enter Try.func59, Try.ntmps59
      go_wp2_with fail
      go_ret
      exact ⟨by simp [someOf]; omega, hb0 _⟩
  · go_enter Try.func59, Try.ntmps59
    go_wp2_with fail
    go_ret
    exact ⟨by simp [someOf]; omega, hb0 _⟩

set_option maxHeartbeats 400000 in
theorem odds_any (v : Value) (d : DLine) (f t : Int) (w : World) (hv : LineAt w v d) (h0 : 0 ≤ f) (hft : f < t) (ht : t ≤ d.odds.length) (hx : ∀ x ∈ d.odds, 0 ≤ x ∧ x ≤ 9) (hn : d.odds.length ≤ 1000) :
    Calls Try.prog 61 #[v, I f, I t] w fun e w' => e = .returned (I (oddsOf d f.toNat t.toNat)) ∧ Below w.heap.size w w' := by
  obtain ⟨f, rfl⟩ := Int.eq_ofNat_of_zero_le h0
  obtain ⟨t, rfl⟩ := Int.eq_ofNat_of_zero_le (show 0 ≤ t by omega)
  simp only [Int.toNat_natCast]
  obtain ⟨pv, ov, rfl, hp, ho⟩ := hv
  obtain ⟨A, c, rfl, hnc, hcm, hc⟩ := ho.open_
  obtain ⟨b, o, rfl, hbl, hc⟩ := hc (by omega)
  have HC := Lib.hid hc; clear hc
  have HX := Lib.hid hx; clear hx hp ho
  go_enter Try.func61, Try.ntmps61
  go_wp2_with fail
  go_loop [7, 16] (fun acc i => ∃ k : Nat, k ≤ t - f ∧ i = I k ∧ acc = I (sumI ((d.odds.drop f).take k)) ∧ 0 ≤ sumI ((d.odds.drop f).take k) ∧ sumI ((d.odds.drop f).take k) ≤ 9 * k) (fun _ i => (t - f) - (intOf i).toNat)
  case atStart => exact ⟨0, by omega, rfl, by simp [sumI], by simp [sumI], by simp [sumI]⟩
  case round =>
    obtain ⟨k, hk, rfl, rfl, hs1, hs2⟩ := hrel
    by_cases hlt : k < t - f
    · have hlx : f + k < d.odds.length := by omega
      have hcell := HC.out (f + k) hlx
      rw [← Nat.add_assoc] at hcell
      obtain ⟨hx1, hx2⟩ := HX.out d.odds[f + k] (List.getElem_mem _)
      have hsn : Hid (sumI ((d.odds.drop f).take (k + 1)) = sumI ((d.odds.drop f).take k) + d.odds[f + k]) := by
        show _ = _
        rw [List.take_succ_eq_append_getElem (by simp; omega), sumI_snoc]; simp
      go_wp2_with fail
      go_round
      case rel => exact ⟨k + 1, by omega, by go_num, by rw [hsn.out], by rw [hsn.out]; omega, by rw [hsn.out]; omega⟩
      case measure => simp [intOf]; omega
    · have : k = t - f := by omega
      subst this
      go_wp2_with fail
      go_ret
      exact ⟨rfl, (Below.refl _ _).alloc (Nat.le_refl _) _⟩
end Go.Proofs.Ytbddaemekgflmaa
