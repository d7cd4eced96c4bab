/- Walks: Far, ready, works. -/
import Derived.Test.YtplbaijdnpfdgaaW21
import Derived.Test.YtplbaijdnpfdgaaW19
import Derived.Test.YtplbaijdnpfdgaaW17
import Derived.Test.YtplbaijdnpfdgaaW13
import Derived.Test.YtplbaijdnpfdgaaEq
namespace Go.Proofs.Ytplbaijdnpfdgaa
open Go.RowKit Go.Sort

theorem ex_level : levelP exT 2 = (⟨20, 25⟩, 0) := by decide +kernel
theorem ex_differ : differP exT 0 2 = (⟨8, 13⟩, 0) := by decide +kernel
theorem ex_low : endsP exT Sp.low = ([10, 13, 20], 0) := by decide +kernel
theorem ex_ask : askP exT = (1, 0) := by decide +kernel
theorem ex_clash : clashP exQ = ([0, 2, 3], 0) := by decide +kernel
theorem ex_why : whyP exT 2 = ([0, 1, 2], 0) := by decide +kernel
def farB (t : Twn) : Bool := hugeB t || ((decide (5 < t.wells) || decide ((8 : Int) < ((t.snd.length + t.slp.length : Nat) : Int))) && valid t)
def readyB (t : Twn) : Bool := !farB t && valid t
theorem hugeB_false {t : Twn} (h : hugeB t = false) : t.snd.length ≤ 40 ∧ t.slp.length ≤ 40 := by simp [hugeB] at h; omega
theorem farB_false {t : Twn} (h : farB t = false) : t.snd.length ≤ 40 ∧ t.slp.length ≤ 40 ∧ (valid t = true → t.wells ≤ 5 ∧ t.snd.length + t.slp.length ≤ 8) := by
  simp only [farB, Bool.or_eq_false_iff, Bool.and_eq_false_iff, decide_eq_false_iff_not] at h
  obtain ⟨h1, h2⟩ := h
  have := hugeB_false h1
  refine ⟨this.1, this.2, fun hv => ?_⟩
  rcases h2 with h2 | h2
  · omega
  · rw [hv] at h2; cases h2
theorem readyB_true {t : Twn} (h : readyB t = true) : valid t = true ∧ t.wells ≤ 5 ∧ t.snd.length + t.slp.length ≤ 8 ∧ t.snd.length ≤ 40 ∧ t.slp.length ≤ 40 := by
  simp only [readyB, Bool.and_eq_true, Bool.not_eq_true'] at h
  have := farB_false h.1
  exact ⟨h.2, (this.2.2 h.2).1, (this.2.2 h.2).2, this.1, this.2.1⟩

set_option maxRecDepth 20000 in
set_option maxHeartbeats 4000000 in
theorem far_any (v : Value) (t : Twn) (w : World) (hv : TwnAt w v t) :
    Calls Try.prog 18 #[v] w fun e w' => e = .returned (.bool (farB t)) ∧ Below w.heap.size w w' := by
  obtain ⟨sv, pv, rfl, hs, hp⟩ := hv
  have HSN := Lib.hid hs
  have HSP := Lib.hid hp
  obtain ⟨A1, c1, rfl, -, -, -⟩ := id hs.open_
  obtain ⟨A2, c2, rfl, -, -, -⟩ := id hp.open_
  clear hs hp
  have S := Lib.hid (show St w (w.alloc (.cells #[I t.wells, .slice A1 t.snd.length c1, .slice A2 t.slp.length c2] 25)) (w.heap.size + 1) [.box w.heap.size [I t.wells, .slice A1 t.snd.length c1, .slice A2 t.slp.length c2]] from (St.init w).alloc [I t.wells, .slice A1 t.snd.length c1, .slice A2 t.slp.length c2] 25)
  have q0 := S.out.get 0 0 rfl rfl
  have q1 := S.out.get 0 1 rfl rfl
  have q2 := S.out.get 0 2 rfl rfl
  cases hh : hugeB t
  · have HH := Lib.hid hh
    have hl := hugeB_false hh
    obtain ⟨hl1, hl2⟩ := hl
    by_cases h5 : 5 < t.wells
    · cases hv : valid t
      · have HC := Lib.hid (show chk t = 10 by simp [chk, hv])
        have HE := Lib.hid (show farB t = false by simp [farB, hh, hv])
        clear hv hh
        go_enter Try.func18, Try.ntmps18
        go_wp2_with fail
        refine (huge_any _ t _ ⟨_, _, rfl, HSN.out.below S.out.bel, HSP.out.below S.out.bel⟩).mono ?_
        rintro e w1 ⟨rfl, hb⟩
        rw [HH.out]
        have S := Lib.hid (S.out.call hb)
        clear hb q0 q1 q2
        have q0 := S.out.get 0 0 rfl rfl
        have q1 := S.out.get 0 1 rfl rfl
        have q2 := S.out.get 0 2 rfl rfl
        go_wp2_with fail
        refine (rCheck_any _ t _ ⟨_, _, rfl, HSN.out.below S.out.bel, HSP.out.below S.out.bel⟩).mono ?_
        rintro e w3 ⟨rfl, hb⟩
        rw [HC.out]
        have S := Lib.hid (S.out.call hb)
        clear hb q0 q1 q2
        go_wp2_with fail
        go_ret
        exact ⟨by rw [HE.out]; try rfl, S.out.bel⟩
      · have HC := Lib.hid (show chk t = 0 by simp [chk, hv])
        have HE := Lib.hid (show farB t = true by simp [farB, h5, hv])
        clear hv hh
        go_enter Try.func18, Try.ntmps18
        go_wp2_with fail
        refine (huge_any _ t _ ⟨_, _, rfl, HSN.out.below S.out.bel, HSP.out.below S.out.bel⟩).mono ?_
        rintro e w1 ⟨rfl, hb⟩
        rw [HH.out]
        have S := Lib.hid (S.out.call hb)
        clear hb q0 q1 q2
        have q0 := S.out.get 0 0 rfl rfl
        have q1 := S.out.get 0 1 rfl rfl
        have q2 := S.out.get 0 2 rfl rfl
        go_wp2_with fail
        refine (rCheck_any _ t _ ⟨_, _, rfl, HSN.out.below S.out.bel, HSP.out.below S.out.bel⟩).mono ?_
        rintro e w3 ⟨rfl, hb⟩
        rw [HC.out]
        have S := Lib.hid (S.out.call hb)
        clear hb q0 q1 q2
        go_wp2_with fail
        go_ret
        exact ⟨by rw [HE.out]; try rfl, S.out.bel⟩
    · by_cases hm : 8 < t.snd.length + t.slp.length
      · have hm' : (8 : Int) < ((t.snd.length + t.slp.length : Nat) : Int) := by omega
        cases hv : valid t
        · have HC := Lib.hid (show chk t = 10 by simp [chk, hv])
          have HE := Lib.hid (show farB t = false by simp [farB, hh, hv])
          clear hv hh hm
          have hm := hm'
          clear hm'
          go_enter Try.func18, Try.ntmps18
          go_wp2_with fail
          refine (huge_any _ t _ ⟨_, _, rfl, HSN.out.below S.out.bel, HSP.out.below S.out.bel⟩).mono ?_
          rintro e w1 ⟨rfl, hb⟩
          rw [HH.out]
          have S := Lib.hid (S.out.call hb)
          clear hb q0 q1 q2
          have q0 := S.out.get 0 0 rfl rfl
          have q1 := S.out.get 0 1 rfl rfl
          have q2 := S.out.get 0 2 rfl rfl
          go_wp2_with fail
          refine (many_any _ t _ ⟨_, _, rfl, HSN.out.below S.out.bel, HSP.out.below S.out.bel⟩ (by omega) (by omega)).mono ?_
          rintro e w2 ⟨rfl, hb⟩
          have S := Lib.hid (S.out.call hb)
          clear hb q0 q1 q2
          obtain ⟨M, hM⟩ : ∃ M, t.snd.length + t.slp.length = M := ⟨_, rfl⟩
          rw [hM] at hm ⊢
          clear hM
          have q0 := S.out.get 0 0 rfl rfl
          have q1 := S.out.get 0 1 rfl rfl
          have q2 := S.out.get 0 2 rfl rfl
          go_wp2_with fail
          refine (rCheck_any _ t _ ⟨_, _, rfl, HSN.out.below S.out.bel, HSP.out.below S.out.bel⟩).mono ?_
          rintro e w3 ⟨rfl, hb⟩
          rw [HC.out]
          have S := Lib.hid (S.out.call hb)
          clear hb q0 q1 q2
          go_wp2_with fail
          go_ret
          exact ⟨by rw [HE.out]; try rfl, S.out.bel⟩
        · have HC := Lib.hid (show chk t = 0 by simp [chk, hv])
          have HE := Lib.hid (show farB t = true by simp only [farB, hv, decide_eq_true hm', Bool.or_true, Bool.and_true])
          clear hv hh hm
          have hm := hm'
          clear hm'
          go_enter Try.func18, Try.ntmps18
          go_wp2_with fail
          refine (huge_any _ t _ ⟨_, _, rfl, HSN.out.below S.out.bel, HSP.out.below S.out.bel⟩).mono ?_
          rintro e w1 ⟨rfl, hb⟩
          rw [HH.out]
          have S := Lib.hid (S.out.call hb)
          clear hb q0 q1 q2
          have q0 := S.out.get 0 0 rfl rfl
          have q1 := S.out.get 0 1 rfl rfl
          have q2 := S.out.get 0 2 rfl rfl
          go_wp2_with fail
          refine (many_any _ t _ ⟨_, _, rfl, HSN.out.below S.out.bel, HSP.out.below S.out.bel⟩ (by omega) (by omega)).mono ?_
          rintro e w2 ⟨rfl, hb⟩
          have S := Lib.hid (S.out.call hb)
          clear hb q0 q1 q2
          obtain ⟨M, hM⟩ : ∃ M, t.snd.length + t.slp.length = M := ⟨_, rfl⟩
          rw [hM] at hm ⊢
          clear hM
          have q0 := S.out.get 0 0 rfl rfl
          have q1 := S.out.get 0 1 rfl rfl
          have q2 := S.out.get 0 2 rfl rfl
          go_wp2_with fail
          refine (rCheck_any _ t _ ⟨_, _, rfl, HSN.out.below S.out.bel, HSP.out.below S.out.bel⟩).mono ?_
          rintro e w3 ⟨rfl, hb⟩
          rw [HC.out]
          have S := Lib.hid (S.out.call hb)
          clear hb q0 q1 q2
          go_wp2_with fail
          go_ret
          exact ⟨by rw [HE.out]; try rfl, S.out.bel⟩
      · have hm' : ¬ (8 : Int) < ((t.snd.length + t.slp.length : Nat) : Int) := by omega
        have HE := Lib.hid (show farB t = false by simp only [farB, hh, decide_eq_false hm', decide_eq_false h5, Bool.or_false, Bool.false_and])
        clear hh hm
        have hm := hm'
        clear hm'
        go_enter Try.func18, Try.ntmps18
        go_wp2_with fail
        refine (huge_any _ t _ ⟨_, _, rfl, HSN.out.below S.out.bel, HSP.out.below S.out.bel⟩).mono ?_
        rintro e w1 ⟨rfl, hb⟩
        rw [HH.out]
        have S := Lib.hid (S.out.call hb)
        clear hb q0 q1 q2
        have q0 := S.out.get 0 0 rfl rfl
        have q1 := S.out.get 0 1 rfl rfl
        have q2 := S.out.get 0 2 rfl rfl
        go_wp2_with fail
        refine (many_any _ t _ ⟨_, _, rfl, HSN.out.below S.out.bel, HSP.out.below S.out.bel⟩ (by omega) (by omega)).mono ?_
        rintro e w2 ⟨rfl, hb⟩
        have S := Lib.hid (S.out.call hb)
        clear hb q0 q1 q2
        obtain ⟨M, hM⟩ : ∃ M, t.snd.length + t.slp.length = M := ⟨_, rfl⟩
        rw [hM] at hm ⊢
        clear hM
        have q0 := S.out.get 0 0 rfl rfl
        have q1 := S.out.get 0 1 rfl rfl
        have q2 := S.out.get 0 2 rfl rfl
        go_wp2_with fail
        go_ret
        exact ⟨by rw [HE.out]; try rfl, S.out.bel⟩
  · have HH := Lib.hid hh
    have HE := Lib.hid (show farB t = true by simp [farB, hh])
    clear hh
    go_enter Try.func18, Try.ntmps18
    go_wp2_with fail
    refine (huge_any _ t _ ⟨_, _, rfl, HSN.out.below S.out.bel, HSP.out.below S.out.bel⟩).mono ?_
    rintro e w1 ⟨rfl, hb⟩
    rw [HH.out]
    have S := Lib.hid (S.out.call hb)
    clear hb q0 q1 q2
    have q0 := S.out.get 0 0 rfl rfl
    have q1 := S.out.get 0 1 rfl rfl
    have q2 := S.out.get 0 2 rfl rfl
    go_wp2_with fail
    go_ret
    exact ⟨by rw [HE.out]; try rfl, S.out.bel⟩

set_option maxRecDepth 20000 in
set_option maxHeartbeats 4000000 in
theorem ready_any (v : Value) (t : Twn) (w : World) (hv : TwnAt w v t) :
    Calls Try.prog 27 #[v] w fun e w' => e = .returned (.bool (readyB t)) ∧ Below w.heap.size w w' := by
  obtain ⟨sv, pv, rfl, hs, hp⟩ := hv
  have HSN := Lib.hid hs
  have HSP := Lib.hid hp
  obtain ⟨A1, c1, rfl, -, -, -⟩ := id hs.open_
  obtain ⟨A2, c2, rfl, -, -, -⟩ := id hp.open_
  clear hs hp
  have S := Lib.hid (show St w (w.alloc (.cells #[I t.wells, .slice A1 t.snd.length c1, .slice A2 t.slp.length c2] 25)) (w.heap.size + 1) [.box w.heap.size [I t.wells, .slice A1 t.snd.length c1, .slice A2 t.slp.length c2]] from (St.init w).alloc [I t.wells, .slice A1 t.snd.length c1, .slice A2 t.slp.length c2] 25)
  have q0 := S.out.get 0 0 rfl rfl
  have q1 := S.out.get 0 1 rfl rfl
  have q2 := S.out.get 0 2 rfl rfl
  cases hh : farB t
  · have HH := Lib.hid hh
    cases hv : valid t
    · have HC := Lib.hid (show chk t = 10 by simp [chk, hv])
      have HE := Lib.hid (show readyB t = false by simp [readyB, hv])
      clear hv hh
      go_enter Try.func27, Try.ntmps27
      go_wp2_with fail
      refine (far_any _ t _ ⟨_, _, rfl, HSN.out.below S.out.bel, HSP.out.below S.out.bel⟩).mono ?_
      rintro e w1 ⟨rfl, hb⟩
      rw [HH.out]
      have S := Lib.hid (S.out.call hb)
      clear hb q0 q1 q2
      have q0 := S.out.get 0 0 rfl rfl
      have q1 := S.out.get 0 1 rfl rfl
      have q2 := S.out.get 0 2 rfl rfl
      go_wp2_with fail
      refine (rCheck_any _ t _ ⟨_, _, rfl, HSN.out.below S.out.bel, HSP.out.below S.out.bel⟩).mono ?_
      rintro e w3 ⟨rfl, hb⟩
      rw [HC.out]
      have S := Lib.hid (S.out.call hb)
      clear hb q0 q1 q2
      go_wp2_with fail
      go_ret
      exact ⟨by rw [HE.out]; try rfl, S.out.bel⟩
    · have HC := Lib.hid (show chk t = 0 by simp [chk, hv])
      have HE := Lib.hid (show readyB t = true by simp [readyB, hv, hh])
      clear hv hh
      go_enter Try.func27, Try.ntmps27
      go_wp2_with fail
      refine (far_any _ t _ ⟨_, _, rfl, HSN.out.below S.out.bel, HSP.out.below S.out.bel⟩).mono ?_
      rintro e w1 ⟨rfl, hb⟩
      rw [HH.out]
      have S := Lib.hid (S.out.call hb)
      clear hb q0 q1 q2
      have q0 := S.out.get 0 0 rfl rfl
      have q1 := S.out.get 0 1 rfl rfl
      have q2 := S.out.get 0 2 rfl rfl
      go_wp2_with fail
      refine (rCheck_any _ t _ ⟨_, _, rfl, HSN.out.below S.out.bel, HSP.out.below S.out.bel⟩).mono ?_
      rintro e w3 ⟨rfl, hb⟩
      rw [HC.out]
      have S := Lib.hid (S.out.call hb)
      clear hb q0 q1 q2
      go_wp2_with fail
      go_ret
      exact ⟨by rw [HE.out]; try rfl, S.out.bel⟩
  · have HH := Lib.hid hh
    have HE := Lib.hid (show readyB t = false by simp [readyB, hh])
    clear hh
    go_enter Try.func27, Try.ntmps27
    go_wp2_with fail
    refine (far_any _ t _ ⟨_, _, rfl, HSN.out.below S.out.bel, HSP.out.below S.out.bel⟩).mono ?_
    rintro e w1 ⟨rfl, hb⟩
    rw [HH.out]
    have S := Lib.hid (S.out.call hb)
    clear hb q0 q1 q2
    have q0 := S.out.get 0 0 rfl rfl
    have q1 := S.out.get 0 1 rfl rfl
    have q2 := S.out.get 0 2 rfl rfl
    go_wp2_with fail
    go_ret
    exact ⟨by rw [HE.out]; try rfl, S.out.bel⟩

set_option maxRecDepth 100000 in
set_option maxHeartbeats 4000000 in
theorem works_any (w : World) :
    Calls Try.prog 19 #[] w fun e w' => e = .returned (.bool true) ∧ Below w.heap.size w w' := by
  go_enter Try.func19, Try.ntmps19
  go_wp2_with fail
  refine (example_any _).mono ?_
  rintro e w1 ⟨v1, v2, rfl, hr1, hr2, hb0⟩
  have HR1 := Lib.hid hr1
  have HR2 := Lib.hid hr2
  have HB0 := Lib.hid hb0
  obtain ⟨rv1, sv1, rfl, ha1, ha2⟩ := hr1
  obtain ⟨rv2, sv2, rfl, ha3, ha4⟩ := hr2
  obtain ⟨A1, c1, rfl, -, -, -⟩ := id ha1.open_
  obtain ⟨A2, c2, rfl, -, -, -⟩ := id ha2.open_
  obtain ⟨A3, c3, rfl, -, -, -⟩ := id ha3.open_
  obtain ⟨A4, c4, rfl, -, -, -⟩ := id ha4.open_
  clear ha1 ha2 ha3 ha4 hb0
  have S := Lib.hid (((St.init w1).alloc [I exT.wells, .slice A1 exT.snd.length c1, .slice A2 exT.slp.length c2] 25).alloc [I exQ.wells, .slice A3 exQ.snd.length c3, .slice A4 exQ.slp.length c4] 25)
  have q0 := S.out.get 1 0 rfl rfl
  have q1 := S.out.get 1 1 rfl rfl
  have q2 := S.out.get 1 2 rfl rfl
  go_wp2_with fail
  clear q0 q1 q2
  refine (level_any _ exT 2 _ (HR1.out.below S.out.bel)).mono ?_
  rintro e w2 ⟨rfl, hb⟩
  rw [ex_level]
  have S := Lib.hid ((S.out.call hb).alloc [I 20, I 25] 40)
  clear hb
  have q0 := S.out.get 2 0 rfl rfl
  have q1 := S.out.get 2 1 rfl rfl
  have q2 := S.out.get 2 2 rfl rfl
  go_wp2_with fail
  clear q0 q1 q2
  refine (differ_any _ exT 0 2 _ (HR1.out.below S.out.bel)).mono ?_
  rintro e w3 ⟨rfl, hb⟩
  rw [ex_differ]
  have S := Lib.hid ((S.out.call hb).alloc [I 8, I 13] 40)
  clear hb
  have q0 := S.out.get 3 0 rfl rfl
  have q1 := S.out.get 3 1 rfl rfl
  have q2 := S.out.get 3 2 rfl rfl
  go_wp2_with fail
  clear q0 q1 q2
  refine (lowest_any _ exT _ (HR1.out.below S.out.bel)).mono ?_
  rintro e w4 ⟨u1, rfl, hl, hb⟩
  rw [ex_low] at hl ⊢
  skip
  have HL := Lib.hid hl
  obtain ⟨Au1, cu1, rfl, -, -, -⟩ := id hl.open_
  clear hl
  have S := Lib.hid (S.out.call hb)
  clear hb
  have HL := Lib.hid (HL.out.below (Below.refl _ _))
  have HBL := Lib.hid (Below.refl w4.heap.size w4)
  have q0 := S.out.get 2 0 rfl rfl
  have q1 := S.out.get 2 1 rfl rfl
  have q2 := S.out.get 2 2 rfl rfl
  go_wp2_with fail
  clear q0 q1 q2
  refine (clash_any _ exQ _ (HR2.out.below S.out.bel)).mono ?_
  rintro e w5 ⟨u2, rfl, hl, hb⟩
  rw [ex_clash] at hl ⊢
  rw [show ofN [0, 2, 3] = [0, 2, 3] from rfl] at hl
  have HK := Lib.hid hl
  obtain ⟨Au2, cu2, rfl, -, -, -⟩ := id hl.open_
  clear hl
  have S := Lib.hid (S.out.call hb)
  have HL := Lib.hid (HL.out.below hb)
  clear hb
  have q0 := S.out.get 3 0 rfl rfl
  have q1 := S.out.get 3 1 rfl rfl
  have q2 := S.out.get 3 2 rfl rfl
  go_wp2_with fail
  clear q0 q1 q2
  refine (ask_any _ exT _ (HR1.out.below S.out.bel)).mono ?_
  rintro e w6 ⟨rfl, hb⟩
  rw [ex_ask]
  have HL := Lib.hid (HL.out.below hb)
  have HK := Lib.hid (HK.out.below hb)
  have S := Lib.hid (S.out.call hb)
  clear hb
  have q0 := S.out.get 3 0 rfl rfl
  have q1 := S.out.get 3 1 rfl rfl
  have q2 := S.out.get 3 2 rfl rfl
  go_wp2_with fail
  clear q0 q1 q2
  refine (why_any _ exT 2 _ (HR1.out.below S.out.bel)).mono ?_
  rintro e w7 ⟨u3, rfl, hl, hb⟩
  rw [ex_why] at hl ⊢
  rw [show ofN [0, 1, 2] = [0, 1, 2] from rfl] at hl
  have HY := Lib.hid hl
  obtain ⟨Au3, cu3, rfl, -, -, -⟩ := id hl.open_
  clear hl
  have S := Lib.hid (S.out.call hb)
  have HL := Lib.hid (HL.out.below hb)
  have HK := Lib.hid (HK.out.below hb)
  clear hb
  have z0 := S.out.get 1 0 rfl rfl
  have z1 := S.out.get 1 1 rfl rfl
  have z2 := S.out.get 0 0 rfl rfl
  have z3 := S.out.get 0 1 rfl rfl
  have e1 := span_eql ⟨20, 25⟩ ⟨20, 25⟩
  have e2 := span_eql ⟨8, 13⟩ ⟨8, 13⟩
  go_wp2_with fail
  clear z0 z1 z2 z3
  have hA := (Below.refl w7.heap.size w7).alloc (Nat.le_refl _) (.cells #[I 10, I 13, I 20] 3)
  have S := Lib.hid (S.out.alloc [I 10, I 13, I 20] 3)
  have hk : Ints _ (.slice (some ⟨w7.heap.size, 0, none⟩) 3 3) [10, 13, 20] := S.out.boxReads 0 rfl rfl (by omega)
  refine (sameInts_any _ _ [10, 13, 20] [10, 13, 20] _ (HL.out.below hA) hk (by decide) (by decide)).mono ?_
  rintro e w8 ⟨rfl, hb⟩
  rw [decide_eq_true (rfl : ([10, 13, 20] : List Int) = [10, 13, 20])]
  have S := Lib.hid (S.out.call hb)
  have HK := Lib.hid ((HK.out.below hA).below hb)
  have HY := Lib.hid ((HY.out.below hA).below hb)
  clear hb hk hA
  go_wp2_with fail
  have hA := (Below.refl w8.heap.size w8).alloc (Nat.le_refl _) (.cells #[I 0, I 2, I 3] 3)
  have S := Lib.hid (S.out.alloc [I 0, I 2, I 3] 3)
  have hk : Ints _ (.slice (some ⟨w8.heap.size, 0, none⟩) 3 3) [0, 2, 3] := S.out.boxReads 0 rfl rfl (by omega)
  refine (sameInts_any _ _ [0, 2, 3] [0, 2, 3] _ (HK.out.below hA) hk (by decide) (by decide)).mono ?_
  rintro e w9 ⟨rfl, hb⟩
  rw [decide_eq_true (rfl : ([0, 2, 3] : List Int) = [0, 2, 3])]
  have S := Lib.hid (S.out.call hb)
  have HY := Lib.hid ((HY.out.below hA).below hb)
  clear hb hk hA
  go_wp2_with fail
  have hA := (Below.refl w9.heap.size w9).alloc (Nat.le_refl _) (.cells #[I 0, I 1, I 2] 3)
  have S := Lib.hid (S.out.alloc [I 0, I 1, I 2] 3)
  have hk : Ints _ (.slice (some ⟨w9.heap.size, 0, none⟩) 3 3) [0, 1, 2] := S.out.boxReads 0 rfl rfl (by omega)
  refine (sameInts_any _ _ [0, 1, 2] [0, 1, 2] _ (HY.out.below hA) hk (by decide) (by decide)).mono ?_
  rintro e w10 ⟨rfl, hb⟩
  rw [decide_eq_true (rfl : ([0, 1, 2] : List Int) = [0, 1, 2])]
  have S := Lib.hid (S.out.call hb)
  clear hb hk hA
  go_wp2_with fail
  go_ret
  exact ⟨rfl, bto HB0.out S.out.bel⟩

end Go.Proofs.Ytplbaijdnpfdgaa
