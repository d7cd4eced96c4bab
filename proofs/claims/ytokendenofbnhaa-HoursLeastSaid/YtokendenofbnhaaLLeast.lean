/- HoursLeast: the law walked. -/
import Derived.Test.YtokendenofbnhaaW22
import Derived.Test.YtokendenofbnhaaW24
import Derived.Test.YtokendenofbnhaaW30
import Derived.Test.YtokendenofbnhaaW35
namespace Go.Proofs.Ytokendenofbnhaa
open Go.RowKit Go.Sort

set_option maxRecDepth 20000 in
set_option maxHeartbeats 4000000 in
theorem lawLeast_any (v : Value) (r : Ros) (z : Int) (w : World) (hv : RosAt w v r) :
    Calls Try.prog 7 #[v, I z] w fun e w' => e = .returned (.bool true) ∧ Below w.heap.size w w' := by
  obtain ⟨rv, sv, rfl, hr, hs⟩ := hv
  obtain ⟨A1, c1, rfl, hr1, hr2, -⟩ := hr.open_
  obtain ⟨A2, c2, rfl, hs1, hs2, -⟩ := hs.open_
  have HR := Lib.hid hr
  have HS := Lib.hid hs
  clear hr hs
  have S := Lib.hid (show St w (w.alloc (.cells #[.slice A1 r.room.length c1, .slice A2 r.strs.length c2] 25)) (w.heap.size + 1) [.box w.heap.size [.slice A1 r.room.length c1, .slice A2 r.strs.length c2]] from (St.init w).alloc [.slice A1 r.room.length c1, .slice A2 r.strs.length c2] 25)
  have q0 := S.out.get 0 0 rfl rfl
  have q1 := S.out.get 0 1 rfl rfl
  go_enter Try.func7, Try.ntmps7
  go_wp2_with fail
  clear q0 q1
  refine (lFar_any _ r _ ⟨_, _, rfl, HR.out.below S.out.bel, HS.out.below S.out.bel⟩).mono ?_
  rintro e w1 ⟨⟨bb, rfl, hok⟩, hb⟩
  have S := Lib.hid (S.out.call hb)
  clear hb
  cases bb
  · obtain ⟨hrl, hsl⟩ := hok rfl
    clear hok
    have q0 := S.out.get 0 0 rfl rfl
    have q1 := S.out.get 0 1 rfl rfl
    go_wp2_with fail
    clear q0 q1
    refine (copy_any _ r _ ⟨_, _, rfl, HR.out.below S.out.bel, HS.out.below S.out.bel⟩ (by omega) (by omega)).mono ?_
    rintro e w3 ⟨v', rfl, ⟨rv', sv', rfl, ho1, ho2⟩, hb⟩
    obtain ⟨Ax, cx, rfl⟩ := own_shape ho1
    obtain ⟨Ay, cy, rfl⟩ := own_shape ho2
    have S := Lib.hid ((S.out.take2 hb ho1 ho2 (by decide)).alloc [.slice Ax r.room.length cx, .slice Ay r.strs.length cy] 25)
    clear hb ho1 ho2
    have p0 := S.out.get 0 0 rfl rfl
    have p1 := S.out.get 0 1 rfl rfl
    go_wp2_with fail
    clear p0 p1
    refine (least_any _ r _ ⟨_, _, rfl, S.out.ints 1 rfl, S.out.row 2 rfl⟩).mono ?_
    rintro e wa1 ⟨rfl, hb⟩
    obtain ⟨⟨x1, y1⟩, hx⟩ : ∃ x, leastR r = x := ⟨_, rfl⟩
    rw [hx]
    have HX1 := Lib.hid hx
    clear hx
    have S := Lib.hid (S.out.call hb)
    clear hb
    have q0 := S.out.get 3 0 rfl rfl
    have q1 := S.out.get 3 1 rfl rfl
    go_wp2_with fail
    clear q0 q1
    refine (rLeast_any _ r _ ⟨_, _, rfl, HR.out.below S.out.bel, HS.out.below S.out.bel⟩).mono ?_
    rintro e wb1 ⟨rfl, hb⟩
    rw [HX1.out]
    have S := Lib.hid (S.out.call hb)
    clear hb
    have p0 := S.out.get 0 0 rfl rfl
    have p1 := S.out.get 0 1 rfl rfl
    go_wp2_with fail
    clear p0 p1
    refine (pRoster_any _ r _ ⟨_, _, rfl, S.out.ints 1 rfl, S.out.row 2 rfl⟩).mono ?_
    rintro e wa2 ⟨va, rfl, hown, hb⟩
    have hle2 : (rosterR r).1.length ≤ 1000 := by
      unfold rosterR
      split
      · simp only [rosterP_length]; omega
      · simp
    obtain ⟨⟨x2, y2⟩, hx⟩ : ∃ x, rosterR r = x := ⟨_, rfl⟩
    rw [hx] at hown hle2
    rw [hx]
    have HX2 := Lib.hid hx
    clear hx
    obtain ⟨Aa2, ca2, rfl⟩ := own_shape hown
    have S := Lib.hid (S.out.take hb hown)
    clear hb hown
    have q0 := S.out.get 4 0 rfl rfl
    have q1 := S.out.get 4 1 rfl rfl
    go_wp2_with fail
    clear q0 q1
    refine (rRoster_any _ r _ ⟨_, _, rfl, HR.out.below S.out.bel, HS.out.below S.out.bel⟩).mono ?_
    rintro e wb2 ⟨vb, rfl, hi, hb⟩
    rw [HX2.out] at hi
    rw [HX2.out]
    obtain ⟨-, Ab2, cb2, rfl, -⟩ := id hi
    have HI2 := Lib.hid hi
    have HW2 := Lib.hid (Below.refl wb2.heap.size wb2)
    clear hi
    have S := Lib.hid (S.out.call hb)
    clear hb
    have HB2 := Lib.hid (Below.refl wb2.heap.size wb2)
    have p0 := S.out.get 1 0 rfl rfl
    have p1 := S.out.get 1 1 rfl rfl
    go_wp2_with fail
    clear p0 p1
    refine (bound_any _ r _ _ ⟨_, _, rfl, S.out.ints 2 rfl, S.out.row 3 rfl⟩).mono ?_
    rintro e wa3 ⟨rfl, hb⟩
    obtain ⟨⟨x3, y3⟩, hx⟩ : ∃ x, boundR r z = x := ⟨_, rfl⟩
    rw [hx]
    have HX3 := Lib.hid hx
    clear hx
    have HB2 := Lib.hid (bto HB2.out hb)
    have S := Lib.hid (S.out.call hb)
    clear hb
    have q0 := S.out.get 4 0 rfl rfl
    have q1 := S.out.get 4 1 rfl rfl
    go_wp2_with fail
    clear q0 q1
    refine (rBound_any _ r _ _ ⟨_, _, rfl, HR.out.below S.out.bel, HS.out.below S.out.bel⟩).mono ?_
    rintro e wb3 ⟨rfl, hb⟩
    rw [HX3.out]
    have HB2 := Lib.hid (bto HB2.out hb)
    have S := Lib.hid (S.out.call hb)
    clear hb
    go_wp2_with fail
    refine (same_any _ _ x2 x2 _ (S.out.ints 0 rfl) (HI2.out.below HB2.out) hle2 hle2).mono ?_
    rintro e w14 ⟨rfl, hb⟩
    rw [show decide (x2 = x2) = true by simp]
    have S := Lib.hid (S.out.call hb)
    clear hb
    have p0 := S.out.get 1 0 rfl rfl
    have p1 := S.out.get 1 1 rfl rfl
    have q0 := S.out.get 4 0 rfl rfl
    have q1 := S.out.get 4 1 rfl rfl
    go_wp2_with fail
    clear p0 p1 q0 q1
    refine (sameR_any _ _ r _ ⟨_, _, rfl, S.out.ints 2 rfl, S.out.row 3 rfl⟩ ⟨_, _, rfl, HR.out.below S.out.bel, HS.out.below S.out.bel⟩ (by omega)).mono ?_
    rintro e w15 ⟨rfl, hb⟩
    have S := Lib.hid (S.out.call hb)
    clear hb
    go_wp2_with fail
    refine (works_any _).mono ?_
    rintro e w17 ⟨rfl, hb⟩
    have S := Lib.hid (S.out.call hb)
    clear hb
    go_wp2_with fail
    go_ret
    exact ⟨rfl, S.out.bel⟩
  · clear hok
    go_wp2_with fail
    refine (works_any _).mono ?_
    rintro e w2 ⟨rfl, hb⟩
    have S := Lib.hid (S.out.call hb)
    clear hb
    go_wp2_with fail
    go_ret
    exact ⟨rfl, S.out.bel⟩

end Go.Proofs.Ytokendenofbnhaa
