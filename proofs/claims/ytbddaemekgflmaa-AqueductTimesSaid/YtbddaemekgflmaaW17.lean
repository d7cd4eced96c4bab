/- Walks of the reference's small words: Within, IsPoint, IsStretch, AreSome, Check, and of Far, ready. -/
import Derived.Test.YtbddaemekgflmaaW11
namespace Go.Proofs.Ytbddaemekgflmaa
open Go.RowKit Go.Sort

set_option maxHeartbeats 400000 in
theorem rWithin_any (n lo hi : Int) (w : World) : Calls Try.prog 23 #[I n, I lo, I hi] w fun e w' => e = .returned (.bool (inR n lo hi)) ∧ w' = w := by
  by_cases h1 : lo ≤ n
  · by_cases h2 : n ≤ hi
    · go_enter Try.func23, Try.ntmps23
      go_wp2_with fail
      go_ret
      exact ⟨by simp [inR, h1, h2], rfl⟩
    · go_enter Try.func23, Try.ntmps23
      go_wp2_with fail
      go_ret
      exact ⟨by simp [inR]; omega, rfl⟩
  · go_enter Try.func23, Try.ntmps23
    go_wp2_with fail
    go_ret
    exact ⟨by simp [inR]; omega, rfl⟩
set_option maxHeartbeats 400000 in
theorem rwithin_any (n lo hi : Int) (w : World) : Calls Try.prog 56 #[I n, I lo, I hi] w fun e w' => e = .returned (.bool (inR n lo hi)) ∧ w' = w := by
  go_enter Try.func56, Try.ntmps56
  go_wp2_with (go_at_call 23; refine (rWithin_any _ _ _ _).mono ?_; rintro e w' ⟨rfl, rfl⟩)
  go_ret
  exact ⟨rfl, rfl⟩
set_option maxHeartbeats 400000 in
theorem rIsPt_any (v : Value) (d : DLine) (n : Int) (w : World) (hv : LineAt w v d) (hlen : d.pts.length ≤ 1000) :
    Calls Try.prog 17 #[v, I n] w fun e w' => e = .returned (.bool (isPt d n)) ∧ Below w.heap.size w w' := by
  obtain ⟨pv, ov, rfl, hp, ho⟩ := hv
  obtain ⟨A, c, rfl, _, _, _⟩ := hp.open_
  clear hp ho
  go_enter Try.func17, Try.ntmps17
  go_wp2_with (go_at_call 56; refine (rwithin_any _ _ _ _).mono ?_; rintro e w' ⟨rfl, rfl⟩)
  go_ret
  exact ⟨rfl, (Below.refl _ _).alloc (Nat.le_refl _) _⟩
set_option maxHeartbeats 400000 in
theorem rIsSt_any (v : Value) (d : DLine) (n : Int) (w : World) (hv : LineAt w v d) (hlen : d.odds.length ≤ 1000) :
    Calls Try.prog 48 #[v, I n] w fun e w' => e = .returned (.bool (isSt d n)) ∧ Below w.heap.size w w' := by
  obtain ⟨pv, ov, rfl, hp, ho⟩ := hv
  obtain ⟨A, c, rfl, _, _, _⟩ := ho.open_
  clear hp ho
  go_enter Try.func48, Try.ntmps48
  go_wp2_with (go_at_call 56; refine (rwithin_any _ _ _ _).mono ?_; rintro e w' ⟨rfl, rfl⟩)
  go_ret
  exact ⟨rfl, (Below.refl _ _).alloc (Nat.le_refl _) _⟩

theorem someOf_ref (d : DLine) (f t : Int) : someOf d f t = (isSt d f && inR t 1 d.odds.length && decide (f < t)) := by
  by_cases h : someOf d f t = true
  · rw [h]
    obtain ⟨h1, h2, h3⟩ := someOf_spec h
    symm
    simp [isSt, inR]
    omega
  · have h0 : someOf d f t = false := by simpa using h
    rw [h0]
    symm
    refine Bool.eq_false_iff.2 fun h' => h ?_
    simp [isSt, inR] at h'
    simp [someOf]
    omega

set_option maxHeartbeats 1000000 in
theorem rAreSome_any (v : Value) (d : DLine) (f t : Int) (w : World) (hv : LineAt w v d) (hlen : d.odds.length ≤ 1000) :
    Calls Try.prog 16 #[v, I f, I t] w fun e w' => e = .returned (.bool (someOf d f t)) ∧ Below w.heap.size w w' := by
  have HV := Lib.hid hv
  obtain ⟨pv, ov, rfl, hp, ho⟩ := hv
  obtain ⟨A, c, rfl, _, _, _⟩ := ho.open_
  have hb0 : ∀ x, Below w.heap.size w (w.alloc x) := fun x => (Below.refl _ _).alloc (Nat.le_refl _) _
  have HR := Lib.hid (someOf_ref d f t)
  have hc := box_cell w #[pv, .slice A d.odds.length c] 25 1 rfl
  clear hp ho
  cases h1 : isSt d f
  · go_enter Try.func16, Try.ntmps16
    go_wp2_with (go_at_call 48; refine (rIsSt_any _ d _ _ (HV.out.below (hb0 _)) hlen).mono ?_; rintro e w1 ⟨rfl, hb1⟩)
    go_ret
    exact ⟨by rw [HR.out, h1]; rfl, bto (hb0 _) hb1⟩
  · cases h2 : inR t 1 d.odds.length
    · go_enter Try.func16, Try.ntmps16
      go_wp2_with (first | (go_at_call 48; refine (rIsSt_any _ d _ _ (HV.out.below (hb0 _)) hlen).mono ?_; rintro e w1 ⟨rfl, hb1⟩; have hc1 := keep_cell hb1 hc) | (go_at_call 56; refine (rwithin_any _ _ _ _).mono ?_; rintro e w' ⟨rfl, rfl⟩))
      go_ret
      exact ⟨by rw [HR.out, h1, h2]; rfl, bto (hb0 _) hb1⟩
    · by_cases h3 : f < t
      · go_enter Try.func16, Try.ntmps16
        go_wp2_with (first | (go_at_call 48; refine (rIsSt_any _ d _ _ (HV.out.below (hb0 _)) hlen).mono ?_; rintro e w1 ⟨rfl, hb1⟩; have hc1 := keep_cell hb1 hc) | (go_at_call 56; refine (rwithin_any _ _ _ _).mono ?_; rintro e w' ⟨rfl, rfl⟩))
        go_ret
        exact ⟨by rw [HR.out, h1, h2]; simp [h3], bto (hb0 _) hb1⟩
      · go_enter Try.func16, Try.ntmps16
        go_wp2_with (first | (go_at_call 48; refine (rIsSt_any _ d _ _ (HV.out.below (hb0 _)) hlen).mono ?_; rintro e w1 ⟨rfl, hb1⟩; have hc1 := keep_cell hb1 hc) | (go_at_call 56; refine (rwithin_any _ _ _ _).mono ?_; rintro e w' ⟨rfl, rfl⟩))
        go_ret
        exact ⟨by rw [HR.out, h1, h2]; simp, bto (hb0 _) hb1⟩

theorem badPt_ref (p : Pt) : badPt p = (!inR p.lo 0 99 || !inR p.hi p.lo 99 || !inR p.cost 0 20) := by
  unfold badPt inR
  by_cases h1 : 0 ≤ p.hi <;> by_cases h2 : p.hi ≤ 99 <;> by_cases h3 : 0 ≤ p.lo <;> by_cases h4 : p.lo ≤ p.hi <;> by_cases h5 : p.lo ≤ 99 <;> simp [h1, h2, h3, h4, h5] <;> omega
theorem chk_bad {d : DLine} (h : valid d = false) : chk d = 60 := by simp [chk, h]
theorem valid_of {d : DLine} (h1 : d.odds.length ≤ 7) (h2 : d.pts.length = d.odds.length + 1) (h3 : ∀ j (h : j < d.odds.length), badOdds d.odds[j] = false) (h4 : ∀ j (h : j < d.pts.length), badPt d.pts[j] = false) : valid d = true := by
  unfold valid
  simp only [Bool.and_eq_true, decide_eq_true_eq, Bool.not_eq_true', List.any_eq_false]
  refine ⟨⟨⟨h1, fun x hx => ?_⟩, h2⟩, fun x hx => ?_⟩
  · obtain ⟨j, hj, rfl⟩ := List.mem_iff_getElem.1 hx
    simpa using h3 j hj
  · obtain ⟨j, hj, rfl⟩ := List.mem_iff_getElem.1 hx
    simpa using h4 j hj
theorem notvalid_odds {d : DLine} (j : Nat) (h : j < d.odds.length) (hb : badOdds d.odds[j] = true) : valid d = false := by
  refine Bool.eq_false_iff.2 fun hv => ?_
  have := (valid_spec hv).2.2.2 _ (List.getElem_mem h)
  simp [badOdds, inR] at hb
  omega
theorem notvalid_pts {d : DLine} (j : Nat) (h : j < d.pts.length) (hb : badPt d.pts[j] = true) : valid d = false := by
  refine Bool.eq_false_iff.2 fun hv => ?_
  unfold valid at hv
  simp only [Bool.and_eq_true, Bool.not_eq_true', List.any_eq_false] at hv
  exact hv.2 _ (List.getElem_mem h) hb
theorem notvalid_many {d : DLine} (h : 7 < d.odds.length ∨ d.pts.length ≠ d.odds.length + 1) : valid d = false := by
  refine Bool.eq_false_iff.2 fun hv => ?_
  have h1 := (valid_spec hv).1
  have h2 := (valid_spec hv).2.1
  omega

set_option maxRecDepth 20000 in
set_option maxHeartbeats 2000000 in
theorem rCheck_any (v : Value) (d : DLine) (w : World) (hv : LineAt w v d) (hlen : d.odds.length ≤ 1000) (hlen' : d.pts.length ≤ 1000) :
    Calls Try.prog 33 #[v] w fun e w' => e = .returned (I (chk d)) ∧ Below w.heap.size w w' := by
  obtain ⟨pv, ov, rfl, hp, ho⟩ := hv
  obtain ⟨A, c, rfl, hac, hcm, ha⟩ := ho.open_
  obtain ⟨A', c', rfl, hac', hcm', ha'⟩ := hp.open_
  have hb0 : ∀ x, Below w.heap.size w (w.alloc x) := fun x => (Below.refl _ _).alloc (Nat.le_refl _) _
  have HA := Lib.hid ha
  have HA' := Lib.hid ha'
  have B0 := Box2.new w (.slice A' d.pts.length c') (.slice A d.odds.length c) 25
  clear hp ho ha ha'
  by_cases h1 : 7 < d.odds.length
  · have HC := Lib.hid (chk_bad (notvalid_many (.inl h1)))
    clear B0
    go_enter Try.func33, Try.ntmps33
    go_wp2_with fail
    go_ret
    exact ⟨by rw [HC.out]; rfl, hb0 _⟩
  · by_cases h2 : d.pts.length = d.odds.length + 1
    · have H2 := Lib.hid h2
      have h2' : ((d.pts.length : Int) != (d.odds.length : Int) + 1) = false := by simp; omega
      clear h2
      go_enter Try.func33, Try.ntmps33
      obtain ⟨x0, x1, x2, x3⟩ := B0
      go_wp2_with fail
      go_loopw [3] (fun i wr => ∃ k : Nat, k ≤ d.odds.length ∧ i = I k ∧ Hid (∀ j (h : j < d.odds.length), j < k → badOdds d.odds[j] = false) ∧ wr = w.alloc (.cells #[.slice A' d.pts.length c', .slice A d.odds.length c] 25)) (fun i _ => d.odds.length - (intOf i).toNat)
      case atStart => exact ⟨0, by omega, rfl, Lib.hid (fun _ _ h => absurd h (by omega)), rfl⟩
      case round =>
        obtain ⟨k, hk, rfl, hj, rfl⟩ := hrel
        by_cases hlt : k < d.odds.length
        · obtain ⟨b, o, rfl, hbl, hcell⟩ := HA.out (by omega)
          have hcell := hcell k hlt
          have hbx := box_old w (.cells #[.slice A' d.pts.length c', .slice (some ⟨b, o, none⟩) d.odds.length c] 25) hcell
          clear hcell
          cases hb : inR d.odds[k] 1 9
          · have HC := Lib.hid (chk_bad (notvalid_odds k hlt (by simp [badOdds, hb])))
            go_wp2_with (go_at_call 56; refine (rwithin_any _ _ _ _).mono ?_; rintro e w' ⟨rfl, rfl⟩)
            go_ret
            exact ⟨by rw [HC.out]; rfl, hb0 _⟩
          · have HB := Lib.hid (show badOdds d.odds[k] = false by simp [badOdds, hb])
            go_wp2_with (go_at_call 56; refine (rwithin_any _ _ _ _).mono ?_; rintro e w' ⟨rfl, rfl⟩)
            go_roundw
            case rel => exact ⟨k + 1, by omega, by go_num, Lib.hid (fun j h hjk => by
              by_cases e : j = k
              · subst e; exact HB.out
              · exact hj.out j h (by omega)), by trivial⟩
            case measure => first | (simp [intOf]; done) | (simp [intOf]; omega)
        · obtain rfl : k = d.odds.length := by omega
          go_wp2_with fail
          obtain ⟨wo, hwo⟩ : ∃ wo : World, wo = w.alloc (.cells #[.slice A' d.pts.length c', .slice A d.odds.length c] 25) := ⟨_, rfl⟩
          go_loopw [4] (fun i wr => ∃ k : Nat, k ≤ d.pts.length ∧ i = I k ∧ Hid (∀ j (h : j < d.pts.length), j < k → badPt d.pts[j] = false) ∧ Hid (Below wo.heap.size wo wr)) (fun i _ => d.pts.length - (intOf i).toNat)
          case atStart => exact ⟨0, by omega, rfl, Lib.hid (fun _ _ h => absurd h (by omega)), Lib.hid (by rw [hwo]; exact Below.refl _ _)⟩
          case round =>
            obtain ⟨m, hm, rfl, hq, hbw⟩ := hrel
            have B1 := ((Box2.mk x0 x1 x2 x3)).keep (by rw [← hwo]; exact hbw.out)
            have hbt : Below w.heap.size w wr := bto (hb0 _) (by rw [← hwo]; exact hbw.out)
            have HBT := Lib.hid hbt
            clear x0 x1 x2 x3
            obtain ⟨x0, x1, x2, x3⟩ := B1
            by_cases hlt : m < d.pts.length
            · obtain ⟨b, o, rfl, hbl, hcell⟩ := HA'.out (by omega)
              obtain ⟨y0, y1, y2⟩ := hcell m hlt
              have z0 := keep_cell hbt y0
              have z1 := keep_cell hbt y1
              have z2 := keep_cell hbt y2
              have HBD := Lib.hid (badPt_ref d.pts[m])
              clear hcell y0 y1 y2 hbt
              cases hb1 : inR d.pts[m].lo 0 99
              · have HC := Lib.hid (chk_bad (notvalid_pts m hlt (by rw [HBD.out, hb1]; rfl)))
                go_wp2_with (go_at_call 56; refine (rwithin_any _ _ _ _).mono ?_; rintro e w' ⟨rfl, rfl⟩)
                go_ret
                exact ⟨by rw [HC.out]; rfl, HBT.out.alloc HBT.out.size _⟩
              · cases hb2 : inR d.pts[m].hi d.pts[m].lo 99
                · have HC := Lib.hid (chk_bad (notvalid_pts m hlt (by rw [HBD.out, hb1, hb2]; rfl)))
                  go_wp2_with (go_at_call 56; refine (rwithin_any _ _ _ _).mono ?_; rintro e w' ⟨rfl, rfl⟩)
                  go_ret
                  exact ⟨by rw [HC.out]; rfl, HBT.out.alloc HBT.out.size _⟩
                · cases hb3 : inR d.pts[m].cost 0 20
                  · have HC := Lib.hid (chk_bad (notvalid_pts m hlt (by rw [HBD.out, hb1, hb2, hb3]; rfl)))
                    go_wp2_with (go_at_call 56; refine (rwithin_any _ _ _ _).mono ?_; rintro e w' ⟨rfl, rfl⟩)
                    go_ret
                    exact ⟨by rw [HC.out]; rfl, HBT.out.alloc HBT.out.size _⟩
                  · have HB := Lib.hid (show badPt d.pts[m] = false by rw [HBD.out, hb1, hb2, hb3]; rfl)
                    go_wp2_with (go_at_call 56; refine (rwithin_any _ _ _ _).mono ?_; rintro e w' ⟨rfl, rfl⟩)
                    go_roundw
                    case rel => exact ⟨m + 1, by omega, by go_num, Lib.hid (fun j h hjk => by
                      by_cases e : j = m
                      · subst e; exact HB.out
                      · exact hq.out j h (by omega)), Lib.hid (hbw.out.alloc hbw.out.size _)⟩
                    case measure => first | (simp [intOf]; done) | (simp [intOf]; omega)
            · obtain rfl : m = d.pts.length := by omega
              have HC := Lib.hid (show chk d = 0 by
                have := valid_of (by omega) H2.out (fun j h => hj.out j h h) (fun j h => hq.out j h h)
                simp [chk, this])
              go_wp2_with fail
              go_ret
              exact ⟨by rw [HC.out]; rfl, HBT.out⟩
    · have h2' : ((d.pts.length : Int) != (d.odds.length : Int) + 1) = true := by simp; omega
      have HC := Lib.hid (chk_bad (notvalid_many (.inr h2)))
      clear B0 h2
      go_enter Try.func33, Try.ntmps33
      go_wp2_with fail
      go_ret
      exact ⟨by rw [HC.out]; rfl, hb0 _⟩

def farD (d : DLine) : Bool := decide (40 < d.pts.length) || decide (40 < d.odds.length)
theorem far_cast (d : DLine) : (decide (40 < (d.pts.length : Int)) || decide (40 < (d.odds.length : Int))) = farD d := by
  unfold farD
  rw [decide_eq_decide.2 (show 40 < (d.pts.length : Int) ↔ 40 < d.pts.length by omega), decide_eq_decide.2 (show 40 < (d.odds.length : Int) ↔ 40 < d.odds.length by omega)]
set_option maxHeartbeats 400000 in
theorem far_any (v : Value) (d : DLine) (w : World) (hv : LineAt w v d) :
    Calls Try.prog 27 #[v] w fun e w' => e = .returned (.bool (farD d)) ∧ Below w.heap.size w w' := by
  obtain ⟨pv, ov, rfl, hp, ho⟩ := hv
  obtain ⟨A, c, rfl, hac, hcm, ha⟩ := ho.open_
  obtain ⟨A', c', rfl, hac', hcm', ha'⟩ := hp.open_
  have hb0 : ∀ x, Below w.heap.size w (w.alloc x) := fun x => (Below.refl _ _).alloc (Nat.le_refl _) _
  clear hp ho ha ha'
  by_cases h1 : 40 < d.pts.length
  · have HF := Lib.hid (show farD d = true by simp [farD]; omega)
    go_enter Try.func27, Try.ntmps27
    go_wp2_with fail
    go_ret
    exact ⟨by rw [HF.out]; rfl, hb0 _⟩
  · by_cases h2 : 40 < d.odds.length
    · have HF := Lib.hid (far_cast d)
      go_enter Try.func27, Try.ntmps27
      go_wp2_with fail
      go_ret
      exact ⟨by rw [← HF.out]; rfl, hb0 _⟩
    · have HF := Lib.hid (far_cast d)
      go_enter Try.func27, Try.ntmps27
      go_wp2_with fail
      go_ret
      exact ⟨by rw [← HF.out]; rfl, hb0 _⟩
def readyD (d : DLine) : Bool := valid d
theorem far_of_valid {d : DLine} (h : valid d = true) : farD d = false := by
  have h1 := (valid_spec h).1
  have h2 := (valid_spec h).2.1
  simp [farD]; omega
set_option maxHeartbeats 400000 in
theorem ready_any (v : Value) (d : DLine) (w : World) (hv : LineAt w v d) :
    Calls Try.prog 15 #[v] w fun e w' => e = .returned (.bool (valid d)) ∧ Below w.heap.size w w' := by
  have HV := Lib.hid hv
  obtain ⟨pv, ov, rfl, hp, ho⟩ := hv
  have hb0 : ∀ x, Below w.heap.size w (w.alloc x) := fun x => (Below.refl _ _).alloc (Nat.le_refl _) _
  have B0 := Box2.new w pv ov 25
  clear hp ho
  cases h1 : farD d
  · have hl : d.pts.length ≤ 40 ∧ d.odds.length ≤ 40 := by simp [farD] at h1; omega
    cases h2 : valid d
    · have hc : chk d = 60 := chk_bad h2
      go_enter Try.func15, Try.ntmps15
      go_wp2_with (first | (go_at_call 27; refine (far_any _ d _ (HV.out.below (hb0 _))).mono ?_; rintro e w1 ⟨rfl, hb1⟩; have B1 := B0.keep hb1; obtain ⟨x0, x1, x2, x3⟩ := B1) | (go_at_call 33; refine (rCheck_any _ d _ (HV.out.below (bto (hb0 _) hb1)) (by omega) (by omega)).mono ?_; rintro e w2 ⟨rfl, hb2⟩))
      go_ret
      exact ⟨rfl, bto (hb0 _) (bto hb1 hb2)⟩
    · have hc : chk d = 0 := by simp [chk, h2]
      go_enter Try.func15, Try.ntmps15
      go_wp2_with (first | (go_at_call 27; refine (far_any _ d _ (HV.out.below (hb0 _))).mono ?_; rintro e w1 ⟨rfl, hb1⟩; have B1 := B0.keep hb1; obtain ⟨x0, x1, x2, x3⟩ := B1) | (go_at_call 33; refine (rCheck_any _ d _ (HV.out.below (bto (hb0 _) hb1)) (by omega) (by omega)).mono ?_; rintro e w2 ⟨rfl, hb2⟩))
      go_ret
      exact ⟨rfl, bto (hb0 _) (bto hb1 hb2)⟩
  · have h2 : valid d = false := by
      refine Bool.eq_false_iff.2 fun h => ?_
      rw [far_of_valid h] at h1
      cases h1
    go_enter Try.func15, Try.ntmps15
    go_wp2_with (first | (go_at_call 27; refine (far_any _ d _ (HV.out.below (hb0 _))).mono ?_; rintro e w1 ⟨rfl, hb1⟩; have B1 := B0.keep hb1; obtain ⟨x0, x1, x2, x3⟩ := B1))
    go_ret
    exact ⟨by rw [h2]; rfl, bto (hb0 _) hb1⟩
end Go.Proofs.Ytbddaemekgflmaa
