/- The law LevelsWhy walked. -/
import Derived.Test.YtplbaijdnpfdgaaV15
namespace Go.Proofs.Ytplbaijdnpfdgaa
open Go.RowKit Go.Sort

theorem why_len (t : Twn) (well : Int) (h5 : valid t = true → t.wells ≤ 5) : (ofN (whyP t well).1).length ≤ 1000 := by
  by_cases h : openE t (isWell t.wells well) = 0
  · obtain ⟨hv, hw, hd⟩ := openE_zero' h
    rw [hw] at h
    obtain ⟨l, e, hl⟩ := why_said h hw
    rw [e]
    have := hl.le
    have := h5 hv
    simp [ofN]; omega
  · unfold whyP
    rw [if_neg h]
    simp [ofN]

set_option maxRecDepth 100000 in
set_option maxHeartbeats 8000000 in
theorem lawWhy_any (v : Value) (t : Twn) (well : Int) (w : World) (hv : TwnAt w v t) :
    Calls Try.prog 4 #[v, I well] w fun e w' => e = .returned (.bool true) ∧ Below w.heap.size w w' := by
  obtain ⟨sv, pv, rfl, hs, hp⟩ := hv
  have HSN := Lib.hid hs
  have HSP := Lib.hid hp
  obtain ⟨A1, c1, rfl, -, -, -⟩ := id hs.open_
  obtain ⟨A2, c2, rfl, -, -, -⟩ := id hp.open_
  clear hs hp
  have S := Lib.hid (show St w (w.alloc (.cells #[I t.wells, .slice A1 t.snd.length c1, .slice A2 t.slp.length c2] 25)) (w.heap.size + 1) [.box w.heap.size [I t.wells, .slice A1 t.snd.length c1, .slice A2 t.slp.length c2]] from (St.init w).alloc [I t.wells, .slice A1 t.snd.length c1, .slice A2 t.slp.length c2] 25)
  cases hh : farB t
  · have HH := Lib.hid hh
    obtain ⟨ht1, ht2, hv8⟩ := farB_false hh
    have HV8 := Lib.hid (fun h => (hv8 h).1)
    have HLN := Lib.hid (why_len t well (fun h => (hv8 h).1))
    clear hh hv8
    go_enter Try.func4, Try.ntmps4
    have q_town0 := S.out.get 0 0 rfl rfl
    have q_town1 := S.out.get 0 1 rfl rfl
    have q_town2 := S.out.get 0 2 rfl rfl
    go_wp2_with fail
    refine (far_any _ t _ ⟨_, _, rfl, HSN.out.below S.out.bel, HSP.out.below S.out.bel⟩).mono ?_
    rintro e w1 ⟨rfl, hb⟩
    rw [HH.out]
    have S := Lib.hid (S.out.call hb)
    clear hb
    clear q_town0 q_town1 q_town2
    have q_town0 := S.out.get 0 0 rfl rfl
    have q_town1 := S.out.get 0 1 rfl rfl
    have q_town2 := S.out.get 0 2 rfl rfl
    go_wp2_with fail
    clear q_town0 q_town1 q_town2
    refine (copy_any _ t _ ⟨_, _, rfl, HSN.out.below S.out.bel, HSP.out.below S.out.bel⟩ (by omega) (by omega)).mono ?_
    rintro e wc ⟨v', rfl, ⟨rv', sv', rfl, ho1, ho2⟩, hb⟩
    obtain ⟨Ax, cx, rfl⟩ := own_shape ho1
    obtain ⟨Ay, cy, rfl⟩ := own_shape ho2
    have S := Lib.hid (S.out.take2 hb ho1 ho2 (by decide))
    clear hb ho1 ho2
    have S := Lib.hid (S.out.alloc [I t.wells, .slice Ax t.snd.length cx, .slice Ay t.slp.length cy] 25)
    have q_copy0 := S.out.get 0 0 rfl rfl
    have q_copy1 := S.out.get 0 1 rfl rfl
    have q_copy2 := S.out.get 0 2 rfl rfl
    go_wp2_with fail
    have hx1 := HLN.out
    obtain ⟨⟨xs, e1⟩, hle⟩ : ∃ x, whyP t well = x := ⟨_, rfl⟩
    have HLE := Lib.hid hle
    rw [hle] at hx1
    dsimp only at hx1
    clear hle
    refine (why_any _ t well _ ⟨_, _, rfl, S.out.row 1 rfl, S.out.row 2 rfl⟩).mono ?_
    rintro e w2 ⟨va, rfl, hl, hb⟩
    rw [HLE.out] at hl ⊢
    obtain ⟨Aa, ca, rfl, -, -, -⟩ := id hl.open_
    have Ha := Lib.hid hl
    clear hl
    have S := Lib.hid (S.out.call hb)
    clear hb
    clear q_copy0 q_copy1 q_copy2
    have q_town0 := S.out.get 3 0 rfl rfl
    have q_town1 := S.out.get 3 1 rfl rfl
    have q_town2 := S.out.get 3 2 rfl rfl
    go_wp2_with fail
    refine (rWhy_any _ t well _ ⟨_, _, rfl, HSN.out.below S.out.bel, HSP.out.below S.out.bel⟩ HV8.out).mono ?_
    rintro e w3 ⟨vb, rfl, hl, hb⟩
    rw [HLE.out] at hl ⊢
    obtain ⟨Ab, cb, rfl, -, -, -⟩ := id hl.open_
    have Hb := Lib.hid hl
    clear hl
    have Ha := Lib.hid (Ints.below Ha.out hb)
    have S := Lib.hid (S.out.call hb)
    clear hb
    clear q_town0 q_town1 q_town2
    go_wp2_with fail
    refine (sameInts_any _ _ (ofN xs) (ofN xs) _ Ha.out Hb.out hx1 hx1).mono ?_
    rintro e w4 ⟨rfl, hb⟩
    rw [show decide (ofN xs = ofN xs) = true by simp]
    have Ha := Lib.hid (Ints.below Ha.out hb)
    have Hb := Lib.hid (Ints.below Hb.out hb)
    have S := Lib.hid (S.out.call hb)
    clear hb
    have q_copy0 := S.out.get 0 0 rfl rfl
    have q_copy1 := S.out.get 0 1 rfl rfl
    have q_copy2 := S.out.get 0 2 rfl rfl
    have q_town0 := S.out.get 3 0 rfl rfl
    have q_town1 := S.out.get 3 1 rfl rfl
    have q_town2 := S.out.get 3 2 rfl rfl
    go_wp2_with fail
    refine (lSame_any _ _ t _ ⟨_, _, rfl, S.out.row 1 rfl, S.out.row 2 rfl⟩ ⟨_, _, rfl, HSN.out.below S.out.bel, HSP.out.below S.out.bel⟩).mono ?_
    rintro e w5 ⟨rfl, hb⟩
    have Ha := Lib.hid (Ints.below Ha.out hb)
    have Hb := Lib.hid (Ints.below Hb.out hb)
    have S := Lib.hid (S.out.call hb)
    clear hb
    clear q_copy0 q_copy1 q_copy2 q_town0 q_town1 q_town2
    go_wp2_with fail
    refine (works_any _).mono ?_
    rintro e w6 ⟨rfl, hb⟩
    have Ha := Lib.hid (Ints.below Ha.out hb)
    have Hb := Lib.hid (Ints.below Hb.out hb)
    have S := Lib.hid (S.out.call hb)
    clear hb
    go_wp2_with fail
    go_ret
    exact ⟨rfl, S.out.bel⟩
  · have HH := Lib.hid hh
    clear hh
    go_enter Try.func4, Try.ntmps4
    have q_town0 := S.out.get 0 0 rfl rfl
    have q_town1 := S.out.get 0 1 rfl rfl
    have q_town2 := S.out.get 0 2 rfl rfl
    go_wp2_with fail
    refine (far_any _ t _ ⟨_, _, rfl, HSN.out.below S.out.bel, HSP.out.below S.out.bel⟩).mono ?_
    rintro e w1 ⟨rfl, hb⟩
    rw [HH.out]
    have S := Lib.hid (S.out.call hb)
    clear hb
    clear q_town0 q_town1 q_town2
    have q_town0 := S.out.get 0 0 rfl rfl
    have q_town1 := S.out.get 0 1 rfl rfl
    have q_town2 := S.out.get 0 2 rfl rfl
    go_wp2_with fail
    refine (works_any _).mono ?_
    rintro e w2 ⟨rfl, hb⟩
    have S := Lib.hid (S.out.call hb)
    clear hb
    clear q_town0 q_town1 q_town2
    have q_town0 := S.out.get 0 0 rfl rfl
    have q_town1 := S.out.get 0 1 rfl rfl
    have q_town2 := S.out.get 0 2 rfl rfl
    go_wp2_with fail
    go_ret
    exact ⟨rfl, S.out.bel⟩

end Go.Proofs.Ytplbaijdnpfdgaa
