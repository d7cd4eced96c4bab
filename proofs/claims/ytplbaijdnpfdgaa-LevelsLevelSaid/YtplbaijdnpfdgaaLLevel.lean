/- The law LevelsLevel walked. -/
import Derived.Test.YtplbaijdnpfdgaaV4
namespace Go.Proofs.Ytplbaijdnpfdgaa
open Go.RowKit Go.Sort

theorem endsP_len (t : Twn) (g : Sp → Int) : (endsP t g).1.length ≤ 1000 := by
  unfold endsP
  split
  · rename_i h
    have := (openE_zero h).1.w6
    simp; omega
  · simp

set_option maxRecDepth 100000 in
set_option maxHeartbeats 8000000 in
theorem lawLevel_any (v : Value) (t : Twn) (well n : Int) (w : World) (hv : TwnAt w v t) :
    Calls Try.prog 11 #[v, I well, I n] w fun e w' => e = .returned (.bool true) ∧ Below w.heap.size w w' := by
  obtain ⟨sv, pv, rfl, hs, hp⟩ := hv
  have HSN := Lib.hid hs
  have HSP := Lib.hid hp
  obtain ⟨A1, c1, rfl, -, -, -⟩ := id hs.open_
  obtain ⟨A2, c2, rfl, -, -, -⟩ := id hp.open_
  clear hs hp
  have S := Lib.hid (show St w (w.alloc (.cells #[I t.wells, .slice A1 t.snd.length c1, .slice A2 t.slp.length c2] 25)) (w.heap.size + 1) [.box w.heap.size [I t.wells, .slice A1 t.snd.length c1, .slice A2 t.slp.length c2]] from (St.init w).alloc [I t.wells, .slice A1 t.snd.length c1, .slice A2 t.slp.length c2] 25)
  cases hh : hugeB t
  · have HH := Lib.hid hh
    obtain ⟨ht1, ht2⟩ := hugeB_false hh
    clear hh
    go_enter Try.func11, Try.ntmps11
    have q_town0 := S.out.get 0 0 rfl rfl
    have q_town1 := S.out.get 0 1 rfl rfl
    have q_town2 := S.out.get 0 2 rfl rfl
    go_wp2_with fail
    refine (huge_any _ t _ ⟨_, _, rfl, HSN.out.below S.out.bel, HSP.out.below S.out.bel⟩).mono ?_
    rintro e w1 ⟨rfl, hb⟩
    rw [HH.out]
    have S := Lib.hid (S.out.call hb)
    clear hb
    clear q_town0 q_town1 q_town2
    have q_town0 := S.out.get 0 0 rfl rfl
    have q_town1 := S.out.get 0 1 rfl rfl
    have q_town2 := S.out.get 0 2 rfl rfl
    go_wp2_with fail
    clear q_town0 q_town1 q_town2
    refine (copy_any _ t _ ⟨_, _, rfl, HSN.out.below S.out.bel, HSP.out.below S.out.bel⟩ (by omega) (by omega)).mono ?_
    rintro e wc ⟨v', rfl, ⟨rv', sv', rfl, ho1, ho2⟩, hb⟩
    obtain ⟨Ax, cx, rfl⟩ := own_shape ho1
    obtain ⟨Ay, cy, rfl⟩ := own_shape ho2
    have S := Lib.hid (S.out.take2 hb ho1 ho2 (by decide))
    clear hb ho1 ho2
    have S := Lib.hid (S.out.alloc [I t.wells, .slice Ax t.snd.length cx, .slice Ay t.slp.length cy] 25)
    have q_copy0 := S.out.get 0 0 rfl rfl
    have q_copy1 := S.out.get 0 1 rfl rfl
    have q_copy2 := S.out.get 0 2 rfl rfl
    go_wp2_with fail
    obtain ⟨⟨⟨a1, a2⟩, e1⟩, hle⟩ : ∃ x, levelP t well = x := ⟨_, rfl⟩
    have HLE := Lib.hid hle
    clear hle
    refine (level_any _ t well _ ⟨_, _, rfl, S.out.row 1 rfl, S.out.row 2 rfl⟩).mono ?_
    rintro e w2 ⟨rfl, hb⟩
    rw [HLE.out]
    have S := Lib.hid ((S.out.call hb).alloc [I a1, I a2] 40)
    clear hb
    clear q_copy0 q_copy1 q_copy2
    have q_town0 := S.out.get 4 0 rfl rfl
    have q_town1 := S.out.get 4 1 rfl rfl
    have q_town2 := S.out.get 4 2 rfl rfl
    go_wp2_with fail
    refine (rLevel_any _ t well _ ⟨_, _, rfl, HSN.out.below S.out.bel, HSP.out.below S.out.bel⟩).mono ?_
    rintro e w3 ⟨rfl, hb⟩
    rw [HLE.out]
    have S := Lib.hid ((S.out.call hb).alloc [I a1, I a2] 40)
    clear hb
    clear q_town0 q_town1 q_town2
    have q_copy0 := S.out.get 2 0 rfl rfl
    have q_copy1 := S.out.get 2 1 rfl rfl
    have q_copy2 := S.out.get 2 2 rfl rfl
    go_wp2_with fail
    have hx1 := endsP_len t Sp.low
    obtain ⟨⟨xs, e2⟩, hlo⟩ : ∃ x, endsP t Sp.low = x := ⟨_, rfl⟩
    have HLO := Lib.hid hlo
    rw [hlo] at hx1
    clear hlo
    refine (lowest_any _ t _ ⟨_, _, rfl, S.out.row 3 rfl, S.out.row 4 rfl⟩).mono ?_
    rintro e w4 ⟨va, rfl, hl, hb⟩
    rw [HLO.out] at hl ⊢
    obtain ⟨Aa, ca, rfl, -, -, -⟩ := id hl.open_
    have Ha := Lib.hid hl
    clear hl
    have S := Lib.hid (S.out.call hb)
    clear hb
    clear q_copy0 q_copy1 q_copy2
    have q_town0 := S.out.get 5 0 rfl rfl
    have q_town1 := S.out.get 5 1 rfl rfl
    have q_town2 := S.out.get 5 2 rfl rfl
    go_wp2_with fail
    refine (rLowest_any _ t _ ⟨_, _, rfl, HSN.out.below S.out.bel, HSP.out.below S.out.bel⟩).mono ?_
    rintro e w5 ⟨vb, rfl, hl, hb⟩
    rw [HLO.out] at hl ⊢
    obtain ⟨Ab, cb, rfl, -, -, -⟩ := id hl.open_
    have Hb := Lib.hid hl
    clear hl
    have Ha := Lib.hid (Ints.below Ha.out hb)
    have S := Lib.hid (S.out.call hb)
    clear hb
    clear q_town0 q_town1 q_town2
    have e1x : ∀ w, (binOp .neq 40 (Sp.val ⟨a1, a2⟩) (Sp.val ⟨a1, a2⟩)).run Try.prog w = .ok (.bool false) w := fun w => by rw [span_neq]; simp
    have q_x0 := S.out.get 1 0 rfl rfl
    have q_x1 := S.out.get 1 1 rfl rfl
    have q_y0 := S.out.get 0 0 rfl rfl
    have q_y1 := S.out.get 0 1 rfl rfl
    go_wp2_with fail
    clear e1x
    refine (sameInts_any _ _ xs xs _ Ha.out Hb.out hx1 hx1).mono ?_
    rintro e w6 ⟨rfl, hb⟩
    rw [show decide (xs = xs) = true by simp]
    have Ha := Lib.hid (Ints.below Ha.out hb)
    have Hb := Lib.hid (Ints.below Hb.out hb)
    have S := Lib.hid (S.out.call hb)
    clear hb
    clear q_x0 q_x1 q_y0 q_y1
    have q_copy0 := S.out.get 2 0 rfl rfl
    have q_copy1 := S.out.get 2 1 rfl rfl
    have q_copy2 := S.out.get 2 2 rfl rfl
    go_wp2_with fail
    have hy1 := endsP_len t Sp.high
    obtain ⟨⟨ys, e3⟩, hhi⟩ : ∃ x, endsP t Sp.high = x := ⟨_, rfl⟩
    have HHI := Lib.hid hhi
    rw [hhi] at hy1
    clear hhi Ha Hb
    refine (highest_any _ t _ ⟨_, _, rfl, S.out.row 3 rfl, S.out.row 4 rfl⟩).mono ?_
    rintro e w7 ⟨vp, rfl, hl, hb⟩
    rw [HHI.out] at hl ⊢
    obtain ⟨Ap, cp, rfl, -, -, -⟩ := id hl.open_
    have Hp := Lib.hid hl
    clear hl
    have S := Lib.hid (S.out.call hb)
    clear hb
    clear q_copy0 q_copy1 q_copy2
    have q_town0 := S.out.get 5 0 rfl rfl
    have q_town1 := S.out.get 5 1 rfl rfl
    have q_town2 := S.out.get 5 2 rfl rfl
    go_wp2_with fail
    refine (rHighest_any _ t _ ⟨_, _, rfl, HSN.out.below S.out.bel, HSP.out.below S.out.bel⟩).mono ?_
    rintro e w8 ⟨vq, rfl, hl, hb⟩
    rw [HHI.out] at hl ⊢
    obtain ⟨Aq, cq, rfl, -, -, -⟩ := id hl.open_
    have Hq := Lib.hid hl
    clear hl
    have Hp := Lib.hid (Ints.below Hp.out hb)
    have S := Lib.hid (S.out.call hb)
    clear hb
    clear q_town0 q_town1 q_town2
    have q_copy0 := S.out.get 2 0 rfl rfl
    have q_copy1 := S.out.get 2 1 rfl rfl
    have q_copy2 := S.out.get 2 2 rfl rfl
    go_wp2_with fail
    have hz1 := overL_len (endsP t Sp.low).1 n (endsP t Sp.low).1.length
    rw [HLO.out] at hz1
    obtain ⟨zs, hov⟩ : ∃ x, overL xs n xs.length = x := ⟨_, rfl⟩
    have HOV := Lib.hid hov
    dsimp only at hz1
    rw [hov] at hz1
    have hz2 : zs.length ≤ 1000 := Nat.le_trans hz1 hx1
    clear hov hz1
    refine (over_any _ t n _ ⟨_, _, rfl, S.out.row 3 rfl, S.out.row 4 rfl⟩).mono ?_
    rintro e w9 ⟨vr, rfl, hl, hb⟩
    rw [HLO.out] at hl ⊢
    dsimp only at hl ⊢
    rw [HOV.out] at hl
    obtain ⟨Ar, cr, rfl, -, -, -⟩ := id hl.open_
    have Hr := Lib.hid hl
    clear hl
    have Hp := Lib.hid (Ints.below Hp.out hb)
    have Hq := Lib.hid (Ints.below Hq.out hb)
    have S := Lib.hid (S.out.call hb)
    clear hb
    clear q_copy0 q_copy1 q_copy2
    have q_town0 := S.out.get 5 0 rfl rfl
    have q_town1 := S.out.get 5 1 rfl rfl
    have q_town2 := S.out.get 5 2 rfl rfl
    go_wp2_with fail
    refine (rOver_any _ t n _ ⟨_, _, rfl, HSN.out.below S.out.bel, HSP.out.below S.out.bel⟩).mono ?_
    rintro e w10 ⟨vs, rfl, hl, hb⟩
    rw [HLO.out] at hl ⊢
    dsimp only at hl ⊢
    rw [HOV.out] at hl
    obtain ⟨As, cs, rfl, -, -, -⟩ := id hl.open_
    have Hs := Lib.hid hl
    clear hl
    have Hp := Lib.hid (Ints.below Hp.out hb)
    have Hq := Lib.hid (Ints.below Hq.out hb)
    have Hr := Lib.hid (Ints.below Hr.out hb)
    have S := Lib.hid (S.out.call hb)
    clear hb
    clear q_town0 q_town1 q_town2
    go_wp2_with fail
    refine (sameInts_any _ _ ys ys _ Hp.out Hq.out hy1 hy1).mono ?_
    rintro e w11 ⟨rfl, hb⟩
    rw [show decide (ys = ys) = true by simp]
    have Hp := Lib.hid (Ints.below Hp.out hb)
    have Hq := Lib.hid (Ints.below Hq.out hb)
    have Hr := Lib.hid (Ints.below Hr.out hb)
    have Hs := Lib.hid (Ints.below Hs.out hb)
    have S := Lib.hid (S.out.call hb)
    clear hb
    go_wp2_with fail
    refine (sameInts_any _ _ zs zs _ Hr.out Hs.out hz2 hz2).mono ?_
    rintro e w12 ⟨rfl, hb⟩
    rw [show decide (zs = zs) = true by simp]
    have Hp := Lib.hid (Ints.below Hp.out hb)
    have Hq := Lib.hid (Ints.below Hq.out hb)
    have Hr := Lib.hid (Ints.below Hr.out hb)
    have Hs := Lib.hid (Ints.below Hs.out hb)
    have S := Lib.hid (S.out.call hb)
    clear hb
    have q_copy0 := S.out.get 2 0 rfl rfl
    have q_copy1 := S.out.get 2 1 rfl rfl
    have q_copy2 := S.out.get 2 2 rfl rfl
    have q_town0 := S.out.get 5 0 rfl rfl
    have q_town1 := S.out.get 5 1 rfl rfl
    have q_town2 := S.out.get 5 2 rfl rfl
    go_wp2_with fail
    refine (lSame_any _ _ t _ ⟨_, _, rfl, S.out.row 3 rfl, S.out.row 4 rfl⟩ ⟨_, _, rfl, HSN.out.below S.out.bel, HSP.out.below S.out.bel⟩).mono ?_
    rintro e w13 ⟨rfl, hb⟩
    have Hp := Lib.hid (Ints.below Hp.out hb)
    have Hq := Lib.hid (Ints.below Hq.out hb)
    have Hr := Lib.hid (Ints.below Hr.out hb)
    have Hs := Lib.hid (Ints.below Hs.out hb)
    have S := Lib.hid (S.out.call hb)
    clear hb
    clear q_copy0 q_copy1 q_copy2 q_town0 q_town1 q_town2
    go_wp2_with fail
    refine (works_any _).mono ?_
    rintro e w14 ⟨rfl, hb⟩
    have Hp := Lib.hid (Ints.below Hp.out hb)
    have Hq := Lib.hid (Ints.below Hq.out hb)
    have Hr := Lib.hid (Ints.below Hr.out hb)
    have Hs := Lib.hid (Ints.below Hs.out hb)
    have S := Lib.hid (S.out.call hb)
    clear hb
    go_wp2_with fail
    go_ret
    exact ⟨rfl, S.out.bel⟩
  · have HH := Lib.hid hh
    clear hh
    go_enter Try.func11, Try.ntmps11
    have q_town0 := S.out.get 0 0 rfl rfl
    have q_town1 := S.out.get 0 1 rfl rfl
    have q_town2 := S.out.get 0 2 rfl rfl
    go_wp2_with fail
    refine (huge_any _ t _ ⟨_, _, rfl, HSN.out.below S.out.bel, HSP.out.below S.out.bel⟩).mono ?_
    rintro e w1 ⟨rfl, hb⟩
    rw [HH.out]
    have S := Lib.hid (S.out.call hb)
    clear hb
    clear q_town0 q_town1 q_town2
    have q_town0 := S.out.get 0 0 rfl rfl
    have q_town1 := S.out.get 0 1 rfl rfl
    have q_town2 := S.out.get 0 2 rfl rfl
    go_wp2_with fail
    refine (works_any _).mono ?_
    rintro e w2 ⟨rfl, hb⟩
    have S := Lib.hid (S.out.call hb)
    clear hb
    clear q_town0 q_town1 q_town2
    have q_town0 := S.out.get 0 0 rfl rfl
    have q_town1 := S.out.get 0 1 rfl rfl
    have q_town2 := S.out.get 0 2 rfl rfl
    go_wp2_with fail
    go_ret
    exact ⟨rfl, S.out.bel⟩

end Go.Proofs.Ytplbaijdnpfdgaa
