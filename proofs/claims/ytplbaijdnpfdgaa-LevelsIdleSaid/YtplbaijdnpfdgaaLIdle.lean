/- The law LevelsIdle walked. -/
import Derived.Test.YtplbaijdnpfdgaaV8
namespace Go.Proofs.Ytplbaijdnpfdgaa
open Go.RowKit Go.Sort

theorem idleP_len (t : Twn) (h1 : t.snd.length ≤ 40) (h2 : t.slp.length ≤ 40) : (idleP t).1.length ≤ 1000 := by
  unfold idleP
  split
  · have := idleTo_len t (t.snd.length + t.slp.length)
    show (idleTo t (t.snd.length + t.slp.length)).length ≤ 1000
    omega
  · simp

set_option maxRecDepth 100000 in
set_option maxHeartbeats 8000000 in
theorem lawIdle_any (v : Value) (t : Twn) (w : World) (hv : TwnAt w v t) :
    Calls Try.prog 13 #[v] w fun e w' => e = .returned (.bool true) ∧ Below w.heap.size w w' := by
  obtain ⟨sv, pv, rfl, hs, hp⟩ := hv
  have HSN := Lib.hid hs
  have HSP := Lib.hid hp
  obtain ⟨A1, c1, rfl, -, -, -⟩ := id hs.open_
  obtain ⟨A2, c2, rfl, -, -, -⟩ := id hp.open_
  clear hs hp
  have S := Lib.hid (show St w (w.alloc (.cells #[I t.wells, .slice A1 t.snd.length c1, .slice A2 t.slp.length c2] 25)) (w.heap.size + 1) [.box w.heap.size [I t.wells, .slice A1 t.snd.length c1, .slice A2 t.slp.length c2]] from (St.init w).alloc [I t.wells, .slice A1 t.snd.length c1, .slice A2 t.slp.length c2] 25)
  cases hh : farB t
  · have HH := Lib.hid hh
    obtain ⟨ht1, ht2, -⟩ := farB_false hh
    clear hh
    go_enter Try.func13, Try.ntmps13
    have q_town0 := S.out.get 0 0 rfl rfl
    have q_town1 := S.out.get 0 1 rfl rfl
    have q_town2 := S.out.get 0 2 rfl rfl
    go_wp2_with fail
    refine (far_any _ t _ ⟨_, _, rfl, HSN.out.below S.out.bel, HSP.out.below S.out.bel⟩).mono ?_
    rintro e w1 ⟨rfl, hb⟩
    rw [HH.out]
    have S := Lib.hid (S.out.call hb)
    clear hb
    clear q_town0 q_town1 q_town2
    have q_town0 := S.out.get 0 0 rfl rfl
    have q_town1 := S.out.get 0 1 rfl rfl
    have q_town2 := S.out.get 0 2 rfl rfl
    go_wp2_with fail
    clear q_town0 q_town1 q_town2
    refine (copy_any _ t _ ⟨_, _, rfl, HSN.out.below S.out.bel, HSP.out.below S.out.bel⟩ (by omega) (by omega)).mono ?_
    rintro e wc ⟨v', rfl, ⟨rv', sv', rfl, ho1, ho2⟩, hb⟩
    obtain ⟨Ax, cx, rfl⟩ := own_shape ho1
    obtain ⟨Ay, cy, rfl⟩ := own_shape ho2
    have S := Lib.hid (S.out.take2 hb ho1 ho2 (by decide))
    clear hb ho1 ho2
    have S := Lib.hid (S.out.alloc [I t.wells, .slice Ax t.snd.length cx, .slice Ay t.slp.length cy] 25)
    have q_copy0 := S.out.get 0 0 rfl rfl
    have q_copy1 := S.out.get 0 1 rfl rfl
    have q_copy2 := S.out.get 0 2 rfl rfl
    go_wp2_with fail
    have hx1 := idleP_len t ht1 ht2
    obtain ⟨⟨xs, e1⟩, hle⟩ : ∃ x, idleP t = x := ⟨_, rfl⟩
    have HLE := Lib.hid hle
    rw [hle] at hx1
    clear hle
    refine (idle_any _ t _ ⟨_, _, rfl, S.out.row 1 rfl, S.out.row 2 rfl⟩).mono ?_
    rintro e w2 ⟨va, rfl, hl, hb⟩
    rw [HLE.out] at hl ⊢
    obtain ⟨Aa, ca, rfl, -, -, -⟩ := id hl.open_
    have Ha := Lib.hid hl
    clear hl
    have S := Lib.hid (S.out.call hb)
    clear hb
    clear q_copy0 q_copy1 q_copy2
    have q_town0 := S.out.get 3 0 rfl rfl
    have q_town1 := S.out.get 3 1 rfl rfl
    have q_town2 := S.out.get 3 2 rfl rfl
    go_wp2_with fail
    refine (rIdle_any _ t _ ⟨_, _, rfl, HSN.out.below S.out.bel, HSP.out.below S.out.bel⟩).mono ?_
    rintro e w3 ⟨vb, rfl, hl, hb⟩
    rw [HLE.out] at hl ⊢
    obtain ⟨Ab, cb, rfl, -, -, -⟩ := id hl.open_
    have Hb := Lib.hid hl
    clear hl
    have Ha := Lib.hid (Ints.below Ha.out hb)
    have S := Lib.hid (S.out.call hb)
    clear hb
    clear q_town0 q_town1 q_town2
    have q_copy0 := S.out.get 0 0 rfl rfl
    have q_copy1 := S.out.get 0 1 rfl rfl
    have q_copy2 := S.out.get 0 2 rfl rfl
    go_wp2_with fail
    obtain ⟨⟨h1, h2⟩, hhi⟩ : ∃ x, askP t = x := ⟨_, rfl⟩
    have HHI := Lib.hid hhi
    clear hhi
    refine (ask_any _ t _ ⟨_, _, rfl, S.out.row 1 rfl, S.out.row 2 rfl⟩).mono ?_
    rintro e w4 ⟨rfl, hb⟩
    rw [HHI.out]
    have Ha := Lib.hid (Ints.below Ha.out hb)
    have Hb := Lib.hid (Ints.below Hb.out hb)
    have S := Lib.hid (S.out.call hb)
    clear hb
    clear q_copy0 q_copy1 q_copy2
    have q_town0 := S.out.get 3 0 rfl rfl
    have q_town1 := S.out.get 3 1 rfl rfl
    have q_town2 := S.out.get 3 2 rfl rfl
    go_wp2_with fail
    refine (rAsk_any _ t _ ⟨_, _, rfl, HSN.out.below S.out.bel, HSP.out.below S.out.bel⟩).mono ?_
    rintro e w5 ⟨rfl, hb⟩
    rw [HHI.out]
    have Ha := Lib.hid (Ints.below Ha.out hb)
    have Hb := Lib.hid (Ints.below Hb.out hb)
    have S := Lib.hid (S.out.call hb)
    clear hb
    clear q_town0 q_town1 q_town2
    go_wp2_with fail
    refine (sameInts_any _ _ xs xs _ Ha.out Hb.out hx1 hx1).mono ?_
    rintro e w6 ⟨rfl, hb⟩
    rw [show decide (xs = xs) = true by simp]
    have Ha := Lib.hid (Ints.below Ha.out hb)
    have Hb := Lib.hid (Ints.below Hb.out hb)
    have S := Lib.hid (S.out.call hb)
    clear hb
    have q_copy0 := S.out.get 0 0 rfl rfl
    have q_copy1 := S.out.get 0 1 rfl rfl
    have q_copy2 := S.out.get 0 2 rfl rfl
    have q_town0 := S.out.get 3 0 rfl rfl
    have q_town1 := S.out.get 3 1 rfl rfl
    have q_town2 := S.out.get 3 2 rfl rfl
    go_wp2_with fail
    refine (lSame_any _ _ t _ ⟨_, _, rfl, S.out.row 1 rfl, S.out.row 2 rfl⟩ ⟨_, _, rfl, HSN.out.below S.out.bel, HSP.out.below S.out.bel⟩).mono ?_
    rintro e w7 ⟨rfl, hb⟩
    have Ha := Lib.hid (Ints.below Ha.out hb)
    have Hb := Lib.hid (Ints.below Hb.out hb)
    have S := Lib.hid (S.out.call hb)
    clear hb
    clear q_copy0 q_copy1 q_copy2 q_town0 q_town1 q_town2
    go_wp2_with fail
    refine (works_any _).mono ?_
    rintro e w8 ⟨rfl, hb⟩
    have Ha := Lib.hid (Ints.below Ha.out hb)
    have Hb := Lib.hid (Ints.below Hb.out hb)
    have S := Lib.hid (S.out.call hb)
    clear hb
    go_wp2_with fail
    go_ret
    exact ⟨rfl, S.out.bel⟩
  · have HH := Lib.hid hh
    clear hh
    go_enter Try.func13, Try.ntmps13
    have q_town0 := S.out.get 0 0 rfl rfl
    have q_town1 := S.out.get 0 1 rfl rfl
    have q_town2 := S.out.get 0 2 rfl rfl
    go_wp2_with fail
    refine (far_any _ t _ ⟨_, _, rfl, HSN.out.below S.out.bel, HSP.out.below S.out.bel⟩).mono ?_
    rintro e w1 ⟨rfl, hb⟩
    rw [HH.out]
    have S := Lib.hid (S.out.call hb)
    clear hb
    clear q_town0 q_town1 q_town2
    have q_town0 := S.out.get 0 0 rfl rfl
    have q_town1 := S.out.get 0 1 rfl rfl
    have q_town2 := S.out.get 0 2 rfl rfl
    go_wp2_with fail
    refine (works_any _).mono ?_
    rintro e w2 ⟨rfl, hb⟩
    have S := Lib.hid (S.out.call hb)
    clear hb
    clear q_town0 q_town1 q_town2
    have q_town0 := S.out.get 0 0 rfl rfl
    have q_town1 := S.out.get 0 1 rfl rfl
    have q_town2 := S.out.get 0 2 rfl rfl
    go_wp2_with fail
    go_ret
    exact ⟨rfl, S.out.bel⟩

end Go.Proofs.Ytplbaijdnpfdgaa
