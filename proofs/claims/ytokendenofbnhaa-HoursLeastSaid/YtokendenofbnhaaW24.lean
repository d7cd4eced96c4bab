/- Walks: Huge, Far, ready. -/
import Derived.Test.YtokendenofbnhaaW23
namespace Go.Proofs.Ytokendenofbnhaa
open Go.RowKit Go.Sort

def hugeB (r : Ros) (l : List Int) : Bool := decide ((40 : Int) < (r.room.length : Int)) || decide ((40 : Int) < (r.strs.length : Int)) || decide ((40 : Int) < (l.length : Int))
set_option maxRecDepth 20000 in
set_option maxHeartbeats 2000000 in
theorem huge_any (v v2 : Value) (r : Ros) (l : List Int) (w : World) (hv : RosAt w v r) (hl : Ints w v2 l) :
    Calls Try.prog 51 #[v, v2] w fun e w' => e = .returned (.bool (hugeB r l)) ∧ Below w.heap.size w w' := by
  obtain ⟨rv, sv, rfl, hr, hs⟩ := hv
  obtain ⟨A1, c1, rfl, hr1, hr2, -⟩ := hr.open_
  obtain ⟨A2, c2, rfl, hs1, hs2, -⟩ := hs.open_
  have HR := Lib.hid hr
  have HS := Lib.hid hs
  clear hr hs
  have S := Lib.hid (show St w (w.alloc (.cells #[.slice A1 r.room.length c1, .slice A2 r.strs.length c2] 25)) (w.heap.size + 1) [.box w.heap.size [.slice A1 r.room.length c1, .slice A2 r.strs.length c2]] from (St.init w).alloc [.slice A1 r.room.length c1, .slice A2 r.strs.length c2] 25)
  obtain ⟨Al, cl, rfl, hl1, hl2, -⟩ := hl.open_
  clear hl
  have q0 := S.out.get 0 0 rfl rfl
  have q1 := S.out.get 0 1 rfl rfl
  by_cases g1 : 40 < r.room.length
  · have HE := Lib.hid (show hugeB r l = true by simp [hugeB]; omega)
    go_enter Try.func51, Try.ntmps51
    go_wp2_with fail
    all_goals
      go_ret
      refine ⟨?_, S.out.bel⟩
      rw [HE.out]
      first | rfl | (simp; done) | (simp; omega)
  · by_cases g2 : 40 < r.strs.length
    · have HE := Lib.hid (show hugeB r l = true by simp [hugeB]; omega)
      go_enter Try.func51, Try.ntmps51
      go_wp2_with fail
      all_goals
        go_ret
        refine ⟨?_, S.out.bel⟩
        rw [HE.out]
        first | rfl | (simp; done) | (simp; omega)
    · by_cases g3 : 40 < l.length
      · have HE := Lib.hid (show hugeB r l = true by simp [hugeB]; omega)
        go_enter Try.func51, Try.ntmps51
        go_wp2_with fail
        all_goals
          go_ret
          refine ⟨?_, S.out.bel⟩
          rw [HE.out]
          first | rfl | (simp; done) | (simp; omega)
      · have HE := Lib.hid (show hugeB r l = false by simp [hugeB]; omega)
        go_enter Try.func51, Try.ntmps51
        go_wp2_with fail
        all_goals
          go_ret
          refine ⟨?_, S.out.bel⟩
          rw [HE.out]
          first | rfl | (simp; done) | (simp; omega)

set_option maxRecDepth 20000 in
set_option maxHeartbeats 4000000 in
theorem lFar_any (v : Value) (r : Ros) (w : World) (hv : RosAt w v r) :
    Calls Try.prog 32 #[v] w fun e w' => (∃ b, e = .returned (.bool b) ∧ (b = false → r.room.length ≤ 40 ∧ r.strs.length ≤ 40)) ∧ Below w.heap.size w w' := by
  obtain ⟨rv, sv, rfl, hr, hs⟩ := hv
  obtain ⟨A1, c1, rfl, hr1, hr2, -⟩ := hr.open_
  obtain ⟨A2, c2, rfl, hs1, hs2, -⟩ := hs.open_
  have HR := Lib.hid hr
  have HS := Lib.hid hs
  clear hr hs
  have S := Lib.hid (show St w (w.alloc (.cells #[.slice A1 r.room.length c1, .slice A2 r.strs.length c2] 25)) (w.heap.size + 1) [.box w.heap.size [.slice A1 r.room.length c1, .slice A2 r.strs.length c2]] from (St.init w).alloc [.slice A1 r.room.length c1, .slice A2 r.strs.length c2] 25)
  have q0 := S.out.get 0 0 rfl rfl
  have q1 := S.out.get 0 1 rfl rfl
  cases hh : hugeB r []
  · have HH := Lib.hid hh
    have hl1 : r.room.length ≤ 40 ∧ r.strs.length ≤ 40 := by simp [hugeB] at hh; omega
    clear hh
    cases hv : valid r
    · have HC := Lib.hid (show chk r = 80 by simp [chk, hv])
      clear hv
      go_enter Try.func32, Try.ntmps32
      go_wp2_with fail
      refine (huge_any _ _ r [] _ ⟨_, _, rfl, HR.out.below S.out.bel, HS.out.below S.out.bel⟩ ⟨rfl, none, 0, rfl, by simp, by omega, fun h => absurd h (by simp)⟩).mono ?_
      rintro e w1 ⟨rfl, hb⟩
      rw [HH.out]
      have S := Lib.hid (S.out.call hb)
      clear hb q0 q1
      have q0 := S.out.get 0 0 rfl rfl
      have q1 := S.out.get 0 1 rfl rfl
      go_wp2_with fail
      refine (rCheck_any _ r _ ⟨_, _, rfl, HR.out.below S.out.bel, HS.out.below S.out.bel⟩).mono ?_
      rintro e w2 ⟨rfl, hb⟩
      rw [HC.out]
      have S := Lib.hid (S.out.call hb)
      clear hb q0 q1
      go_wp2_with fail
      go_ret
      exact ⟨⟨false, rfl, fun _ => hl1⟩, S.out.bel⟩
    · have HC := Lib.hid (show chk r = 0 by simp [chk, hv])
      clear hv
      obtain ⟨_, _, e, _, _, hsc⟩ := HS.out.open_
      injection e with e1 e2 e3
      subst e1
      have HSC := Lib.hid hsc
      clear e2 e3 hsc
      go_enter Try.func32, Try.ntmps32
      go_wp2_with fail
      refine (huge_any _ _ r [] _ ⟨_, _, rfl, HR.out.below S.out.bel, HS.out.below S.out.bel⟩ ⟨rfl, none, 0, rfl, by simp, by omega, fun h => absurd h (by simp)⟩).mono ?_
      rintro e w1 ⟨rfl, hb⟩
      rw [HH.out]
      have S := Lib.hid (S.out.call hb)
      clear hb q0 q1
      have q0 := S.out.get 0 0 rfl rfl
      have q1 := S.out.get 0 1 rfl rfl
      go_wp2_with fail
      refine (rCheck_any _ r _ ⟨_, _, rfl, HR.out.below S.out.bel, HS.out.below S.out.bel⟩).mono ?_
      rintro e w2 ⟨rfl, hb⟩
      rw [HC.out]
      have S := Lib.hid (S.out.call hb)
      clear hb q0 q1
      go_wp2_with fail
      go_loopw [3, 4] (fun u i wr => ∃ (k : Nat) (x : Int), k ≤ r.strs.length ∧ i = I k ∧ u = I x ∧ Hid (St w wr wr.heap.size [.box w.heap.size [.slice A1 r.room.length c1, .slice A2 r.strs.length c2]])) (fun _ i _ => r.strs.length - (intOf i).toNat)
      case atStart => exact ⟨0, 1, by omega, rfl, rfl, Lib.hid S.out.fix⟩
      case round =>
        clear S
        obtain ⟨k, x, hk, rfl, rfl, S⟩ := hrel
        have q1 := S.out.get 0 1 rfl rfl
        by_cases hlt : k < r.strs.length
        · have hki : (k : Int) < (r.strs.length : Int) := by omega
          obtain ⟨b2, o2, rfl, hb2, hcell⟩ := HSC.out (by omega)
          obtain ⟨-, z1, z2, -⟩ := hcell k hlt
          have Z1 := Lib.hid z1
          have Z2 := Lib.hid z2
          clear z1 z2 hcell
          go_wp2_with fail
          clear q1
          refine wp_region_seg [] [0, 1, 2, 3, 4, 5, 6, 7, 8, 9, 10, 11, 12, 13, 14, 15, 16] [] 17 (by kernel_rfl) (by kernel_rfl) ?_
          intro KQ hKQ w3 hb
          have S := Lib.hid (S.out.call hb)
          clear hb
          have q0_1 := cell_regrown (S.out.get 0 1 rfl rfl)
          have y1 := cell_regrown (keep_cell S.out.bel Z1.out)
          have y2 := cell_regrown (keep_cell S.out.bel Z2.out)
          refine seg_last ?_
          simp only [opsAt, List.filterMap_cons, List.filterMap_nil, List.getElem?_toArray, List.getElem?_cons_succ, List.getElem?_cons_zero]
          repeat (first | go_big_quiet_step (fail) | quiet_step (fail))
          refine wpQuiet_nil ?_
          clear q0_1 y1 y2
          go_wp2_with fail
          go_roundw
          case rel => exact ⟨k + 1, _, by omega, by go_num, rfl, S⟩
          case measure => first | (simp [intOf]; done) | (simp [intOf]; omega)
        · go_wp2_with fail
          go_ret
          exact ⟨⟨_, rfl, fun _ => hl1⟩, S.out.bel⟩
  · have HH := Lib.hid hh
    clear hh
    go_enter Try.func32, Try.ntmps32
    go_wp2_with fail
    refine (huge_any _ _ r [] _ ⟨_, _, rfl, HR.out.below S.out.bel, HS.out.below S.out.bel⟩ ⟨rfl, none, 0, rfl, by simp, by omega, fun h => absurd h (by simp)⟩).mono ?_
    rintro e w1 ⟨rfl, hb⟩
    rw [HH.out]
    have S := Lib.hid (S.out.call hb)
    clear hb q0 q1
    have q0 := S.out.get 0 0 rfl rfl
    have q1 := S.out.get 0 1 rfl rfl
    go_wp2_with fail
    go_ret
    exact ⟨⟨true, rfl, fun h => by cases h⟩, S.out.bel⟩

set_option maxRecDepth 20000 in
set_option maxHeartbeats 4000000 in
theorem ready_any (v : Value) (r : Ros) (w : World) (hv : RosAt w v r) :
    Calls Try.prog 15 #[v] w fun e w' => (∃ b, e = .returned (.bool b) ∧ (b = true → ROk r)) ∧ Below w.heap.size w w' := by
  obtain ⟨rv, sv, rfl, hr, hs⟩ := hv
  obtain ⟨A1, c1, rfl, hr1, hr2, -⟩ := hr.open_
  obtain ⟨A2, c2, rfl, hs1, hs2, -⟩ := hs.open_
  have HR := Lib.hid hr
  have HS := Lib.hid hs
  clear hr hs
  have S := Lib.hid (show St w (w.alloc (.cells #[.slice A1 r.room.length c1, .slice A2 r.strs.length c2] 25)) (w.heap.size + 1) [.box w.heap.size [.slice A1 r.room.length c1, .slice A2 r.strs.length c2]] from (St.init w).alloc [.slice A1 r.room.length c1, .slice A2 r.strs.length c2] 25)
  have q0 := S.out.get 0 0 rfl rfl
  have q1 := S.out.get 0 1 rfl rfl
  cases hv : valid r
  · have HC := Lib.hid (show chk r = 80 by simp [chk, hv])
    clear hv
    go_enter Try.func15, Try.ntmps15
    go_wp2_with fail
    refine (lFar_any _ r _ ⟨_, _, rfl, HR.out.below S.out.bel, HS.out.below S.out.bel⟩).mono ?_
    rintro e w1 ⟨⟨b, rfl, hbb⟩, hb⟩
    have S := Lib.hid (S.out.call hb)
    clear hb q0 q1
    have q0 := S.out.get 0 0 rfl rfl
    have q1 := S.out.get 0 1 rfl rfl
    cases b
    · go_wp2_with fail
      refine (rCheck_any _ r _ ⟨_, _, rfl, HR.out.below S.out.bel, HS.out.below S.out.bel⟩).mono ?_
      rintro e w2 ⟨rfl, hb⟩
      rw [HC.out]
      have S := Lib.hid (S.out.call hb)
      clear hb q0 q1
      go_wp2_with fail
      go_ret
      exact ⟨⟨false, rfl, fun h => by cases h⟩, S.out.bel⟩
    · go_wp2_with fail
      go_ret
      exact ⟨⟨false, rfl, fun h => by cases h⟩, S.out.bel⟩
  · have HC := Lib.hid (show chk r = 0 by simp [chk, hv])
    have HV := Lib.hid (valid_iff.1 hv)
    clear hv
    go_enter Try.func15, Try.ntmps15
    go_wp2_with fail
    refine (lFar_any _ r _ ⟨_, _, rfl, HR.out.below S.out.bel, HS.out.below S.out.bel⟩).mono ?_
    rintro e w1 ⟨⟨b, rfl, hbb⟩, hb⟩
    have S := Lib.hid (S.out.call hb)
    clear hb q0 q1
    have q0 := S.out.get 0 0 rfl rfl
    have q1 := S.out.get 0 1 rfl rfl
    cases b
    · go_wp2_with fail
      refine (rCheck_any _ r _ ⟨_, _, rfl, HR.out.below S.out.bel, HS.out.below S.out.bel⟩).mono ?_
      rintro e w2 ⟨rfl, hb⟩
      rw [HC.out]
      have S := Lib.hid (S.out.call hb)
      clear hb q0 q1
      go_wp2_with fail
      go_ret
      exact ⟨⟨true, rfl, fun _ => HV.out⟩, S.out.bel⟩
    · go_wp2_with fail
      go_ret
      exact ⟨⟨false, rfl, fun h => by cases h⟩, S.out.bel⟩

end Go.Proofs.Ytokendenofbnhaa
