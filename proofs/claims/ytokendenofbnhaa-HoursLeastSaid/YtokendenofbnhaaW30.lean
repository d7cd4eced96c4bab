/- Walks: Good, Cost, Moved of both sides; Same. -/
import Derived.Test.YtokendenofbnhaaW26
import Derived.Test.YtokendenofbnhaaW25
import Derived.Test.YtokendenofbnhaaW15
import Derived.Test.YtokendenofbnhaaW21
namespace Go.Proofs.Ytokendenofbnhaa
open Go.RowKit Go.Sort

def pCostR (r : Ros) (l : List Int) : Int × Int := if givenE r l = 0 then (costL r.strs l, 0) else (0, givenE r l)
def pMovedR (r : Ros) (l : List Int) : List Int × Int := if givenE r l = 0 then (movedL r.strs l, 0) else ([], givenE r l)
set_option maxRecDepth 20000 in
set_option maxHeartbeats 2000000 in
theorem rGiven_any (v v2 : Value) (r : Ros) (l : List Int) (w : World) (hv : RosAt w v r) (hl : Ints w v2 l) (hlen : l.length ≤ 1000) :
    Calls Try.prog 82 #[v, v2] w fun e w' => e = .returned (I (givenE r l)) ∧ Below w.heap.size w w' := by
  obtain ⟨rv, sv, rfl, hr, hs⟩ := hv
  obtain ⟨A1, c1, rfl, hr1, hr2, -⟩ := hr.open_
  obtain ⟨A2, c2, rfl, hs1, hs2, -⟩ := hs.open_
  have HR := Lib.hid hr
  have HS := Lib.hid hs
  clear hr hs
  have S := Lib.hid (show St w (w.alloc (.cells #[.slice A1 r.room.length c1, .slice A2 r.strs.length c2] 25)) (w.heap.size + 1) [.box w.heap.size [.slice A1 r.room.length c1, .slice A2 r.strs.length c2]] from (St.init w).alloc [.slice A1 r.room.length c1, .slice A2 r.strs.length c2] 25)
  obtain ⟨Al, cl, rfl, hl1, hl2, hlc⟩ := id hl.open_
  have HL := Lib.hid hl
  have HLC := Lib.hid hlc
  clear hl hlc
  have q0 := S.out.get 0 0 rfl rfl
  have q1 := S.out.get 0 1 rfl rfl
  go_enter Try.func82, Try.ntmps82
  cases hvd : valid r
  · have HC := Lib.hid (show chk r = 80 by simp [chk, hvd])
    have HE := Lib.hid (show givenE r l = 80 by simp [givenE, hvd])
    clear hvd
    go_wp2_with fail
    clear q0 q1
    refine (rCheck_any _ r _ ⟨_, _, rfl, HR.out.below S.out.bel, HS.out.below S.out.bel⟩).mono ?_
    rintro e w1 ⟨rfl, hb⟩
    rw [HC.out]
    have S := Lib.hid (S.out.call hb)
    clear hb
    go_wp2_with fail
    go_ret
    exact ⟨by rw [HE.out]; rfl, S.out.bel⟩
  · have HC := Lib.hid (show chk r = 0 by simp [chk, hvd])
    have HE := Lib.hid (show givenE r l = if newB r l then 0 else 1 by simp [givenE, hvd])
    have HVD := Lib.hid (valid_iff.1 hvd)
    clear hvd
    go_wp2_with fail
    clear q0 q1
    refine (rCheck_any _ r _ ⟨_, _, rfl, HR.out.below S.out.bel, HS.out.below S.out.bel⟩).mono ?_
    rintro e w1 ⟨rfl, hb⟩
    rw [HC.out]
    have S := Lib.hid (S.out.call hb)
    clear hb
    have q0 := S.out.get 0 0 rfl rfl
    have q1 := S.out.get 0 1 rfl rfl
    go_wp2_with fail
    clear q0 q1
    refine (isNew_any _ _ r l _ ⟨_, _, rfl, HR.out.below S.out.bel, HS.out.below S.out.bel⟩ HVD.out (HL.out.below S.out.bel) hlen).mono ?_
    rintro e w3 ⟨rfl, hb⟩
    have S := Lib.hid (S.out.call hb)
    clear hb
    cases hn : newB r l
    · go_wp2_with fail
      go_ret
      exact ⟨by rw [HE.out, hn]; rfl, S.out.bel⟩
    · go_wp2_with fail
      go_ret
      exact ⟨by rw [HE.out, hn]; rfl, S.out.bel⟩

set_option maxRecDepth 20000 in
set_option maxHeartbeats 2000000 in
theorem rGood_any (v v2 : Value) (r : Ros) (l : List Int) (w : World) (hv : RosAt w v r) (hl : Ints w v2 l) (hlen : l.length ≤ 1000) :
    Calls Try.prog 54 #[v, v2] w fun e w' => e = .returned (.tuple #[.bool (pGoodR r l).1, I (pGoodR r l).2]) ∧ Below w.heap.size w w' := by
  obtain ⟨rv, sv, rfl, hr, hs⟩ := hv
  obtain ⟨A1, c1, rfl, hr1, hr2, -⟩ := hr.open_
  obtain ⟨A2, c2, rfl, hs1, hs2, -⟩ := hs.open_
  have HR := Lib.hid hr
  have HS := Lib.hid hs
  clear hr hs
  have S := Lib.hid (show St w (w.alloc (.cells #[.slice A1 r.room.length c1, .slice A2 r.strs.length c2] 25)) (w.heap.size + 1) [.box w.heap.size [.slice A1 r.room.length c1, .slice A2 r.strs.length c2]] from (St.init w).alloc [.slice A1 r.room.length c1, .slice A2 r.strs.length c2] 25)
  obtain ⟨Al, cl, rfl, hl1, hl2, hlc⟩ := id hl.open_
  have HL := Lib.hid hl
  have HLC := Lib.hid hlc
  clear hl hlc
  have q0 := S.out.get 0 0 rfl rfl
  have q1 := S.out.get 0 1 rfl rfl
  go_enter Try.func54, Try.ntmps54
  cases hvd : valid r
  · have HC := Lib.hid (show chk r = 80 by simp [chk, hvd])
    have HE := Lib.hid (show pGoodR r l = (false, 80) by simp [pGoodR, hvd])
    clear hvd
    go_wp2_with fail
    clear q0 q1
    refine (rCheck_any _ r _ ⟨_, _, rfl, HR.out.below S.out.bel, HS.out.below S.out.bel⟩).mono ?_
    rintro e w1 ⟨rfl, hb⟩
    rw [HC.out]
    have S := Lib.hid (S.out.call hb)
    clear hb
    go_wp2_with fail
    go_ret2
    exact ⟨by rw [HE.out]; rfl, S.out.bel⟩
  · have HC := Lib.hid (show chk r = 0 by simp [chk, hvd])
    have HE := Lib.hid (show pGoodR r l = (newB r l, 0) by simp [pGoodR, hvd])
    have HVD := Lib.hid (valid_iff.1 hvd)
    clear hvd
    go_wp2_with fail
    clear q0 q1
    refine (rCheck_any _ r _ ⟨_, _, rfl, HR.out.below S.out.bel, HS.out.below S.out.bel⟩).mono ?_
    rintro e w1 ⟨rfl, hb⟩
    rw [HC.out]
    have S := Lib.hid (S.out.call hb)
    clear hb
    have q0 := S.out.get 0 0 rfl rfl
    have q1 := S.out.get 0 1 rfl rfl
    go_wp2_with fail
    clear q0 q1
    refine (isNew_any _ _ r l _ ⟨_, _, rfl, HR.out.below S.out.bel, HS.out.below S.out.bel⟩ HVD.out (HL.out.below S.out.bel) hlen).mono ?_
    rintro e w3 ⟨rfl, hb⟩
    have S := Lib.hid (S.out.call hb)
    clear hb
    go_wp2_with fail
    go_ret2
    exact ⟨by rw [HE.out]; rfl, S.out.bel⟩

set_option maxRecDepth 20000 in
set_option maxHeartbeats 2000000 in
theorem rCost_any (v v2 : Value) (r : Ros) (l : List Int) (w : World) (hv : RosAt w v r) (hl : Ints w v2 l) (hlen : l.length ≤ 1000) :
    Calls Try.prog 56 #[v, v2] w fun e w' => e = .returned (.tuple #[I (pCostR r l).1, I (pCostR r l).2]) ∧ Below w.heap.size w w' := by
  obtain ⟨rv, sv, rfl, hr, hs⟩ := hv
  obtain ⟨A1, c1, rfl, hr1, hr2, -⟩ := hr.open_
  obtain ⟨A2, c2, rfl, hs1, hs2, -⟩ := hs.open_
  have HR := Lib.hid hr
  have HS := Lib.hid hs
  clear hr hs
  have S := Lib.hid (show St w (w.alloc (.cells #[.slice A1 r.room.length c1, .slice A2 r.strs.length c2] 25)) (w.heap.size + 1) [.box w.heap.size [.slice A1 r.room.length c1, .slice A2 r.strs.length c2]] from (St.init w).alloc [.slice A1 r.room.length c1, .slice A2 r.strs.length c2] 25)
  obtain ⟨Al, cl, rfl, hl1, hl2, hlc⟩ := id hl.open_
  have HL := Lib.hid hl
  have HLC := Lib.hid hlc
  clear hl hlc
  have q0 := S.out.get 0 0 rfl rfl
  have q1 := S.out.get 0 1 rfl rfl
  go_enter Try.func56, Try.ntmps56
  by_cases hg : givenE r l = 0
  · have HG := Lib.hid hg
    have HVD := Lib.hid (valid_iff.1 (givenE_zero.1 hg).1)
    have HIN := Lib.hid (InL.of_new (givenE_zero.1 hg).2)
    have HE := Lib.hid (show pCostR r l = (costL r.strs l, 0) by unfold pCostR; rw [if_pos hg])
    clear hg
    go_wp2_with fail
    clear q0 q1
    refine (rGiven_any _ _ r l _ ⟨_, _, rfl, HR.out.below S.out.bel, HS.out.below S.out.bel⟩ (HL.out.below S.out.bel) hlen).mono ?_
    rintro e w1 ⟨rfl, hb⟩
    rw [HG.out]
    have S := Lib.hid (S.out.call hb)
    clear hb
    have q0 := S.out.get 0 0 rfl rfl
    have q1 := S.out.get 0 1 rfl rfl
    go_wp2_with fail
    clear q0 q1
    refine (costOf_any _ _ r l _ ⟨_, _, rfl, HR.out.below S.out.bel, HS.out.below S.out.bel⟩ HVD.out (HL.out.below S.out.bel) HIN.out).mono ?_
    rintro e w3 ⟨rfl, hb⟩
    have S := Lib.hid (S.out.call hb)
    clear hb
    go_wp2_with fail
    go_ret2
    exact ⟨by rw [HE.out]; rfl, S.out.bel⟩
  · have HE := Lib.hid (show pCostR r l = (0, givenE r l) by unfold pCostR; rw [if_neg hg])
    obtain ⟨er, her⟩ : ∃ x, givenE r l = x := ⟨_, rfl⟩
    have hq : (er != 0) = true := by rw [← her]; simpa using hg
    have HG := Lib.hid her
    clear hg her
    go_wp2_with fail
    clear q0 q1
    refine (rGiven_any _ _ r l _ ⟨_, _, rfl, HR.out.below S.out.bel, HS.out.below S.out.bel⟩ (HL.out.below S.out.bel) hlen).mono ?_
    rintro e w1 ⟨rfl, hb⟩
    rw [HG.out]
    have S := Lib.hid (S.out.call hb)
    clear hb
    go_wp2_with fail
    go_ret2
    exact ⟨by rw [HE.out, HG.out]; rfl, S.out.bel⟩

set_option maxRecDepth 20000 in
set_option maxHeartbeats 2000000 in
theorem pCost_any (v v2 : Value) (r : Ros) (l : List Int) (w : World) (hv : RosAt w v r) (hl : Ints w v2 l) (hlen : l.length ≤ 1000) :
    Calls Try.prog 55 #[v, v2] w fun e w' => e = .returned (.tuple #[I (pCostR r l).1, I (pCostR r l).2]) ∧ Below w.heap.size w w' := by
  obtain ⟨rv, sv, rfl, hr, hs⟩ := hv
  obtain ⟨A1, c1, rfl, hr1, hr2, -⟩ := hr.open_
  obtain ⟨A2, c2, rfl, hs1, hs2, -⟩ := hs.open_
  have HR := Lib.hid hr
  have HS := Lib.hid hs
  clear hr hs
  have S := Lib.hid (show St w (w.alloc (.cells #[.slice A1 r.room.length c1, .slice A2 r.strs.length c2] 25)) (w.heap.size + 1) [.box w.heap.size [.slice A1 r.room.length c1, .slice A2 r.strs.length c2]] from (St.init w).alloc [.slice A1 r.room.length c1, .slice A2 r.strs.length c2] 25)
  obtain ⟨Al, cl, rfl, hl1, hl2, hlc⟩ := id hl.open_
  have HL := Lib.hid hl
  have HLC := Lib.hid hlc
  clear hl hlc
  have q0 := S.out.get 0 0 rfl rfl
  have q1 := S.out.get 0 1 rfl rfl
  go_enter Try.func55, Try.ntmps55
  by_cases hg : givenE r l = 0
  · have HG := Lib.hid hg
    have HVD := Lib.hid (valid_iff.1 (givenE_zero.1 hg).1)
    have HIN := Lib.hid (InL.of_new (givenE_zero.1 hg).2)
    have HE := Lib.hid (show pCostR r l = (costL r.strs l, 0) by unfold pCostR; rw [if_pos hg])
    clear hg
    go_wp2_with fail
    clear q0 q1
    refine (given_any _ _ r l _ ⟨_, _, rfl, HR.out.below S.out.bel, HS.out.below S.out.bel⟩ (HL.out.below S.out.bel) hlen).mono ?_
    rintro e w1 ⟨rfl, hb⟩
    rw [HG.out]
    have S := Lib.hid (S.out.call hb)
    clear hb
    have q0 := S.out.get 0 0 rfl rfl
    have q1 := S.out.get 0 1 rfl rfl
    go_wp2_with fail
    clear q0 q1
    refine (cost_any _ _ r l _ ⟨_, _, rfl, HR.out.below S.out.bel, HS.out.below S.out.bel⟩ HVD.out (HL.out.below S.out.bel) HIN.out).mono ?_
    rintro e w3 ⟨rfl, hb⟩
    have S := Lib.hid (S.out.call hb)
    clear hb
    go_wp2_with fail
    go_ret2
    exact ⟨by rw [HE.out]; rfl, S.out.bel⟩
  · have HE := Lib.hid (show pCostR r l = (0, givenE r l) by unfold pCostR; rw [if_neg hg])
    obtain ⟨er, her⟩ : ∃ x, givenE r l = x := ⟨_, rfl⟩
    have hq : (er != 0) = true := by rw [← her]; simpa using hg
    have HG := Lib.hid her
    clear hg her
    go_wp2_with fail
    clear q0 q1
    refine (given_any _ _ r l _ ⟨_, _, rfl, HR.out.below S.out.bel, HS.out.below S.out.bel⟩ (HL.out.below S.out.bel) hlen).mono ?_
    rintro e w1 ⟨rfl, hb⟩
    rw [HG.out]
    have S := Lib.hid (S.out.call hb)
    clear hb
    go_wp2_with fail
    go_ret2
    exact ⟨by rw [HE.out, HG.out]; rfl, S.out.bel⟩

set_option maxRecDepth 20000 in
set_option maxHeartbeats 2000000 in
theorem rMoved_any (v v2 : Value) (r : Ros) (l : List Int) (w : World) (hv : RosAt w v r) (hl : Ints w v2 l) (hlen : l.length ≤ 1000) :
    Calls Try.prog 58 #[v, v2] w fun e w' => ∃ v', e = .returned (.tuple #[v', I (pMovedR r l).2]) ∧ w'.ownsRow w.heap.size 3 1 v' (pMovedR r l).1.length ((pMovedR r l).1.map I) ∧ Below w.heap.size w w' := by
  obtain ⟨rv, sv, rfl, hr, hs⟩ := hv
  obtain ⟨A1, c1, rfl, hr1, hr2, -⟩ := hr.open_
  obtain ⟨A2, c2, rfl, hs1, hs2, -⟩ := hs.open_
  have HR := Lib.hid hr
  have HS := Lib.hid hs
  clear hr hs
  have S := Lib.hid (show St w (w.alloc (.cells #[.slice A1 r.room.length c1, .slice A2 r.strs.length c2] 25)) (w.heap.size + 1) [.box w.heap.size [.slice A1 r.room.length c1, .slice A2 r.strs.length c2]] from (St.init w).alloc [.slice A1 r.room.length c1, .slice A2 r.strs.length c2] 25)
  obtain ⟨Al, cl, rfl, hl1, hl2, hlc⟩ := id hl.open_
  have HL := Lib.hid hl
  have HLC := Lib.hid hlc
  clear hl hlc
  have q0 := S.out.get 0 0 rfl rfl
  have q1 := S.out.get 0 1 rfl rfl
  go_enter Try.func58, Try.ntmps58
  by_cases hg : givenE r l = 0
  · have HG := Lib.hid hg
    have HVD := Lib.hid (valid_iff.1 (givenE_zero.1 hg).1)
    have HIN := Lib.hid (InL.of_new (givenE_zero.1 hg).2)
    have HE := Lib.hid (show pMovedR r l = (movedL r.strs l, 0) by unfold pMovedR; rw [if_pos hg])
    clear hg
    go_wp2_with fail
    clear q0 q1
    refine (rGiven_any _ _ r l _ ⟨_, _, rfl, HR.out.below S.out.bel, HS.out.below S.out.bel⟩ (HL.out.below S.out.bel) hlen).mono ?_
    rintro e w1 ⟨rfl, hb⟩
    rw [HG.out]
    have S := Lib.hid (S.out.call hb)
    clear hb
    have q0 := S.out.get 0 0 rfl rfl
    have q1 := S.out.get 0 1 rfl rfl
    go_wp2_with fail
    clear q0 q1
    refine (movedOf_any _ _ r l _ ⟨_, _, rfl, HR.out.below S.out.bel, HS.out.below S.out.bel⟩ HVD.out (HL.out.below S.out.bel) HIN.out).mono ?_
    rintro e w3 ⟨v', rfl, hown, hb⟩
    have S := Lib.hid (S.out.take hb hown)
    clear hb hown
    go_wp2_with fail
    go_ret2
    exact ⟨v', by rw [HE.out]; rfl, by rw [HE.out]; exact S.out.own 0 rfl, S.out.bel⟩
  · have HE := Lib.hid (show pMovedR r l = ([], givenE r l) by unfold pMovedR; rw [if_neg hg])
    obtain ⟨er, her⟩ : ∃ x, givenE r l = x := ⟨_, rfl⟩
    have hq : (er != 0) = true := by rw [← her]; simpa using hg
    have HG := Lib.hid her
    clear hg her
    go_wp2_with fail
    clear q0 q1
    refine (rGiven_any _ _ r l _ ⟨_, _, rfl, HR.out.below S.out.bel, HS.out.below S.out.bel⟩ (HL.out.below S.out.bel) hlen).mono ?_
    rintro e w1 ⟨rfl, hb⟩
    rw [HG.out]
    have S := Lib.hid (S.out.call hb)
    clear hb
    go_wp2_with fail
    go_ret2
    exact ⟨.slice none 0 0, by rw [HE.out, HG.out]; rfl, by rw [HE.out]; exact World.ownsRow_nil _ _ _ _, S.out.bel⟩

set_option maxRecDepth 20000 in
set_option maxHeartbeats 4000000 in
theorem pMoved_any (v v2 : Value) (r : Ros) (l : List Int) (w : World) (hv : RosAt w v r) (hl : Ints w v2 l) (hlen : l.length ≤ 1000) :
    Calls Try.prog 57 #[v, v2] w fun e w' => ∃ v', e = .returned (.tuple #[v', I (pMovedR r l).2]) ∧ w'.ownsRow w.heap.size 3 1 v' (pMovedR r l).1.length ((pMovedR r l).1.map I) ∧ Below w.heap.size w w' := by
  obtain ⟨i0, hi, hz0, hz1, hz2⟩ := info_parts Try.info3
  have h02 : 0 < 1 := by omega
  obtain ⟨rv, sv, rfl, hr, hs⟩ := hv
  obtain ⟨A1, c1, rfl, hr1, hr2, -⟩ := hr.open_
  obtain ⟨A2, c2, rfl, hs1, hs2, -⟩ := hs.open_
  have HR := Lib.hid hr
  have HS := Lib.hid hs
  clear hr hs
  have S := Lib.hid (show St w (w.alloc (.cells #[.slice A1 r.room.length c1, .slice A2 r.strs.length c2] 25)) (w.heap.size + 1) [.box w.heap.size [.slice A1 r.room.length c1, .slice A2 r.strs.length c2]] from (St.init w).alloc [.slice A1 r.room.length c1, .slice A2 r.strs.length c2] 25)
  obtain ⟨Al, cl, rfl, hl1, hl2, hlc⟩ := id hl.open_
  have HL := Lib.hid hl
  have HLC := Lib.hid hlc
  clear hl hlc
  have q0 := S.out.get 0 0 rfl rfl
  have q1 := S.out.get 0 1 rfl rfl
  go_enter Try.func57, Try.ntmps57
  by_cases hg : givenE r l = 0
  · have HG := Lib.hid hg
    have HVD := Lib.hid (valid_iff.1 (givenE_zero.1 hg).1)
    have HIN := Lib.hid (InL.of_new (givenE_zero.1 hg).2)
    have HE := Lib.hid (show pMovedR r l = (movedL r.strs l, 0) by unfold pMovedR; rw [if_pos hg])
    clear hg
    go_wp2_with fail
    clear q0 q1
    refine (given_any _ _ r l _ ⟨_, _, rfl, HR.out.below S.out.bel, HS.out.below S.out.bel⟩ (HL.out.below S.out.bel) hlen).mono ?_
    rintro e w1 ⟨rfl, hb⟩
    rw [HG.out]
    have S := Lib.hid (S.out.call hb)
    clear hb
    have q0 := S.out.get 0 0 rfl rfl
    have q1 := S.out.get 0 1 rfl rfl
    clear q0 q1
    have HN := Lib.hid (HIN.out.len)
    have hl6 : l.length ≤ 6 := by rw [HN.out]; exact HVD.out.sl
    obtain ⟨_, _, e, _, _, hsc⟩ := HS.out.open_
    injection e with e1 e2 e3
    subst e1
    have HSC := Lib.hid hsc
    clear e2 e3 hsc
    have S := Lib.hid (S.out.nil 3 1)
    go_wp2_with fail
    go_loopw [7, 18] (fun u i wr => ∃ (k : Nat) (v : Value), k ≤ l.length ∧ i = I k ∧ v = u ∧ Hid (St w wr wr.heap.size [.own 3 1 v (movedTo r.strs l k).length ((movedTo r.strs l k).map I), .box w.heap.size [.slice A1 r.room.length c1, .slice A2 r.strs.length c2]])) (fun _ i _ => l.length - (intOf i).toNat)
    case atStart => exact ⟨0, _, by omega, rfl, rfl, Lib.hid S.out.fix⟩
    case round =>
      clear S
      obtain ⟨k, v, hk, rfl, rfl, S⟩ := hrel
      by_cases hlt : k < l.length
      · have hki : (k : Int) < (l.length : Int) := by omega
        have hlt2 : k < r.strs.length := by have := HN.out; omega
        have hki2 : (k : Int) < (r.strs.length : Int) := by omega
        obtain ⟨b1, o1, rfl, hb1, hcell1⟩ := HLC.out (by omega)
        obtain ⟨b2, o2, rfl, hb2, hcell2⟩ := HSC.out (by omega)
        have hy := hcell2 k hlt2
        have x0 := hcell1 k hlt
        clear hcell1 hcell2
        have hsm := HIN.out.sml (fun s hs => (HVD.out.so s hs).1) k hlt2 hlt
        have hstep := movedTo_succ r.strs l k
        obtain ⟨s, hs⟩ : ∃ s, r.strs[k] = s := ⟨_, rfl⟩
        obtain ⟨hh, hhe⟩ : ∃ x, l[k] = x := ⟨_, rfl⟩
        rw [hs] at hy hsm
        rw [hhe] at x0 hsm
        rw [show l.getD k 0 = hh by rw [← hhe]; simp [List.getD_eq_getElem?_getD, List.getElem?_eq_getElem hlt], show r.strs.getD k default = s by rw [← hs]; simp [List.getD_eq_getElem?_getD, List.getElem?_eq_getElem hlt2]] at hstep
        obtain ⟨mv, hmv⟩ : ∃ x, moveI s hh = x := ⟨_, rfl⟩
        rw [hmv] at hstep
        have HMV := Lib.hid hmv
        have HSM := Lib.hid hsm
        have HST := Lib.hid hstep
        have y0 := keep_cell S.out.bel hy.1
        have y1 := keep_cell S.out.bel hy.2.1
        have y2 := keep_cell S.out.bel hy.2.2.1
        have y3 := keep_cell S.out.bel hy.2.2.2
        have x0 := keep_cell S.out.bel x0
        have q1 := S.out.get 1 1 rfl rfl
        clear hs hhe hmv hy hsm hstep
        go_wp2_with fail
        clear y0 y1 y2 y3 x0 q1
        refine (move_any s hh _ HSM.out).mono ?_
        rintro e w4 ⟨rfl, hb⟩
        rw [HMV.out]
        have S := Lib.hid (S.out.call hb)
        clear hb
        by_cases hp : 0 < mv
        · have HST2 := Lib.hid (HST.out.trans (if_pos hp))
          have hml : (movedTo r.strs l k).length ≤ 6 := by have := movedTo_len r.strs l k; omega
          have h63 : (movedTo r.strs l k).length + 1 ≤ maxLen := by simp only [maxLen]; omega
          have hby : ((movedTo r.strs l k).length + 1) * 8 ≤ 140737488355328 := by omega
          have S := Lib.hid (S.out.alloc [I (k : Int)] 3)
          go_wp2_with (at_builtin; refine wpList_append_St S.out 1 rfl _ _ 22 rfl 3 i0 (.int .i64 0) 1 8 Try.underlying22 hi hz0 hz1 hz2 rfl h02 rfl rfl _ 1 [I (k : Int)] rfl (reads_box1 (S.out.get 0 0 rfl rfl)) (ints_one [(k : Int)]) h63 hby ?_; intro v' w5 hS5; have S := Lib.hid hS5.tail; clear hS5)
          try go_frame
          go_roundw
          case rel => exact ⟨k + 1, _, by omega, by go_num, rfl, Lib.hid (by
            rw [HST2.out]
            have q := S.out
            rw [List.length_append, List.map_append]
            exact q)⟩
          case measure => first | (simp [intOf]; done) | (simp [intOf]; omega)
        · have HST2 := Lib.hid (HST.out.trans (if_neg hp))
          go_wp2_with fail
          go_roundw
          case rel => exact ⟨k + 1, _, by omega, by go_num, rfl, Lib.hid (by rw [HST2.out]; exact S.out)⟩
          case measure => first | (simp [intOf]; done) | (simp [intOf]; omega)
      · obtain rfl : k = l.length := by omega
        go_wp2_with fail
        go_ret2
        exact ⟨v, by rw [HE.out]; rfl, by rw [HE.out]; exact S.out.own 0 rfl, S.out.bel⟩
  · have HE := Lib.hid (show pMovedR r l = ([], givenE r l) by unfold pMovedR; rw [if_neg hg])
    obtain ⟨er, her⟩ : ∃ x, givenE r l = x := ⟨_, rfl⟩
    have hq : (er != 0) = true := by rw [← her]; simpa using hg
    have HG := Lib.hid her
    clear hg her
    go_wp2_with fail
    clear q0 q1
    refine (given_any _ _ r l _ ⟨_, _, rfl, HR.out.below S.out.bel, HS.out.below S.out.bel⟩ (HL.out.below S.out.bel) hlen).mono ?_
    rintro e w1 ⟨rfl, hb⟩
    rw [HG.out]
    have S := Lib.hid (S.out.call hb)
    clear hb
    go_wp2_with fail
    go_ret2
    exact ⟨.slice none 0 0, by rw [HE.out, HG.out]; rfl, by rw [HE.out]; exact World.ownsRow_nil _ _ _ _, S.out.bel⟩

set_option maxRecDepth 20000 in
set_option maxHeartbeats 4000000 in
theorem sameR_any (v v2 : Value) (r : Ros) (w : World) (hv : RosAt w v r) (hv' : RosAt w v2 r) (hlen : r.room.length ≤ 1000) :
    Calls Try.prog 38 #[v, v2] w fun e w' => e = .returned (.bool true) ∧ Below w.heap.size w w' := by
  obtain ⟨rv, sv, rfl, hr, hs⟩ := hv
  obtain ⟨A1, c1, rfl, hr1, hr2, -⟩ := hr.open_
  obtain ⟨A2, c2, rfl, hs1, hs2, -⟩ := hs.open_
  have HR := Lib.hid hr
  have HS := Lib.hid hs
  clear hr hs
  have S := Lib.hid (show St w (w.alloc (.cells #[.slice A1 r.room.length c1, .slice A2 r.strs.length c2] 25)) (w.heap.size + 1) [.box w.heap.size [.slice A1 r.room.length c1, .slice A2 r.strs.length c2]] from (St.init w).alloc [.slice A1 r.room.length c1, .slice A2 r.strs.length c2] 25)
  obtain ⟨rv', sv', rfl, hr', hs'⟩ := hv'
  obtain ⟨A3, c3, rfl, hr3, hr4, -⟩ := hr'.open_
  obtain ⟨A4, c4, rfl, hs3, hs4, hsc'⟩ := id hs'.open_
  have HR' := Lib.hid hr'
  have HS' := Lib.hid hs'
  have HSC' := Lib.hid hsc'
  clear hr' hs' hsc'
  obtain ⟨_, _, e, _, _, hsc⟩ := HS.out.open_
  injection e with e1 e2 e3
  subst e1
  have HSC := Lib.hid hsc
  clear e2 e3 hsc
  have S := Lib.hid (S.out.alloc [.slice A3 r.room.length c3, .slice A4 r.strs.length c4] 25)
  have q0 := S.out.get 1 0 rfl rfl
  have p0 := S.out.get 0 0 rfl rfl
  go_enter Try.func38, Try.ntmps38
  go_wp2_with fail
  clear q0 p0
  refine (same_any _ _ r.room r.room _ (HR.out.below S.out.bel) (HR'.out.below S.out.bel) hlen hlen).mono ?_
  rintro e w1 ⟨rfl, hb⟩
  rw [show decide (r.room = r.room) = true by simp]
  have S := Lib.hid (S.out.call hb)
  clear hb
  have q1 := S.out.get 1 1 rfl rfl
  have p1 := S.out.get 0 1 rfl rfl
  go_wp2_with fail
  clear q1 p1
  go_loopw [5] (fun i wr => ∃ (k : Nat), k ≤ r.strs.length ∧ i = I k ∧ Hid (St w wr wr.heap.size [.box (w.heap.size + 1) [.slice A3 r.room.length c3, .slice A4 r.strs.length c4], .box w.heap.size [.slice A1 r.room.length c1, .slice A2 r.strs.length c2]])) (fun i _ => r.strs.length - (intOf i).toNat)
  case atStart => exact ⟨0, by omega, rfl, Lib.hid S.out.fix⟩
  case round =>
    clear S
    obtain ⟨k, hk, rfl, S⟩ := hrel
    by_cases hlt : k < r.strs.length
    · have hki : (k : Int) < (r.strs.length : Int) := by omega
      obtain ⟨b2, o2, rfl, hb2, hcell2⟩ := HSC.out (by omega)
      obtain ⟨b4, o4, rfl, hb4, hcell4⟩ := HSC'.out (by omega)
      have hy := hcell2 k hlt
      have hz := hcell4 k hlt
      obtain ⟨s, hs⟩ : ∃ s, r.strs[k] = s := ⟨_, rfl⟩
      rw [hs] at hy hz
      have HY := Lib.hid hy
      have HZ := Lib.hid hz
      clear hcell2 hcell4 hs hy hz
      have q1 := S.out.get 1 1 rfl rfl
      go_wp2_with fail
      clear q1
      have q1 := cell_regrown (S.out.get 1 1 rfl rfl)
      have p1 := cell_regrown (S.out.get 0 1 rfl rfl)
      have y0 := cell_regrown (keep_cell S.out.bel HY.out.1)
      have y1 := cell_regrown (keep_cell S.out.bel HY.out.2.1)
      have y2 := cell_regrown (keep_cell S.out.bel HY.out.2.2.1)
      have y3 := cell_regrown (keep_cell S.out.bel HY.out.2.2.2)
      have z0 := cell_regrown (keep_cell S.out.bel HZ.out.1)
      have z1 := cell_regrown (keep_cell S.out.bel HZ.out.2.1)
      have z2 := cell_regrown (keep_cell S.out.bel HZ.out.2.2.1)
      have z3 := cell_regrown (keep_cell S.out.bel HZ.out.2.2.2)
      refine wp_region_quiet_below (by kernel_rfl) (by kernel_rfl) ?_
      repeat (go_big_quiet_step (fail))
      refine wpQuiet_nil ?_
      rintro w5 ⟨p5, hp5⟩
      have S := Lib.hid (show St w w5 w5.heap.size _ from (by rw [hp5]; exact S.out.call (below_regrown _ _ _)))
      clear hp5 q1 p1 y0 y1 y2 y3 z0 z1 z2 z3
      go_wp2_with fail
      go_roundw
      case rel => exact ⟨k + 1, by omega, by go_num, Lib.hid S.out.fix⟩
      case measure => first | (simp [intOf]; done) | (simp [intOf]; omega)
    · obtain rfl : k = r.strs.length := by omega
      have q1 := S.out.get 1 1 rfl rfl
      go_wp2_with fail
      go_ret
      exact ⟨rfl, S.out.bel⟩

end Go.Proofs.Ytokendenofbnhaa
