/- Walks: cost, given, Good, Cost. -/
import Derived.Test.YtokendenofbnhaaW14
import Derived.Test.YtokendenofbnhaaPlain4
namespace Go.Proofs.Ytokendenofbnhaa
open Go.RowKit Go.Sort

theorem StrOk.sml' {s : Str} (h : StrOk s) {x : Int} (h0 : s.frm ≤ x) (h1 : x ≤ s.to) : Sml s x := by
  obtain ⟨a, b, c, d, e, g, i⟩ := h
  exact ⟨by omega, by omega, by omega, by omega, by omega, by omega⟩
theorem InL.sml {ss : List Str} {l : List Int} (h : InL ss l) (hok : ∀ s ∈ ss, StrOk s) (k : Nat) (h1 : k < ss.length) (h2 : k < l.length) : Sml ss[k] l[k] := (hok _ (List.getElem_mem h1)).sml' (h.inn k h1 h2).1 (h.inn k h1 h2).2
theorem costTo_bd {ss : List Str} {l : List Int} (h : InL ss l) (hok : ∀ s ∈ ss, StrOk s) (hsl : ss.length ≤ 6) (k : Nat) : 0 ≤ sumW stepsI (ss.take k) (l.take k) ∧ sumW stepsI (ss.take k) (l.take k) ≤ 10800 := by
  have := sumW_bd (w := stepsI) (M := 1800) (by omega) (ss.take k) (l.take k) (fun j h1 h2 => by
    rw [List.getElem_take, List.getElem_take]
    exact stepsI_bd (h.sml hok j (by simp at h1; omega) (by simp at h2; omega)))
  have hl : (ss.take k).length ≤ 6 := by simp; omega
  omega

set_option maxRecDepth 20000 in
set_option maxHeartbeats 4000000 in
theorem cost_any (v v2 : Value) (r : Ros) (l : List Int) (w : World) (hv : RosAt w v r) (hvd : ROk r) (hl : Ints w v2 l) (hin : InL r.strs l) :
    Calls Try.prog 69 #[v, v2] w fun e w' => e = .returned (I (costL r.strs l)) ∧ Below w.heap.size w w' := by
  obtain ⟨rv, sv, rfl, hr, hs⟩ := hv
  obtain ⟨A1, c1, rfl, hr1, hr2, -⟩ := hr.open_
  obtain ⟨A2, c2, rfl, hs1, hs2, -⟩ := hs.open_
  have HR := Lib.hid hr
  have HS := Lib.hid hs
  clear hr hs
  have S := Lib.hid (show St w (w.alloc (.cells #[.slice A1 r.room.length c1, .slice A2 r.strs.length c2] 25)) (w.heap.size + 1) [.box w.heap.size [.slice A1 r.room.length c1, .slice A2 r.strs.length c2]] from (St.init w).alloc [.slice A1 r.room.length c1, .slice A2 r.strs.length c2] 25)
  obtain ⟨Al, cl, rfl, hl1, hl2, hlc⟩ := hl.open_
  have HLC := Lib.hid hlc
  obtain ⟨_, _, e, _, _, hsc⟩ := HS.out.open_
  injection e with e1 e2 e3
  subst e1
  have HSC := Lib.hid hsc
  have hl6 : l.length ≤ 6 := by rw [hin.len]; exact hvd.sl
  have HN := Lib.hid hin.len
  have HIN := Lib.hid hin
  have HVD := Lib.hid hvd
  clear e2 e3 hlc hl hsc hin hvd
  go_enter Try.func69, Try.ntmps69
  go_wp2_with fail
  go_loopw [5, 10] (fun n i wr => ∃ k : Nat, k ≤ l.length ∧ i = I k ∧ n = I (sumW stepsI (r.strs.take k) (l.take k)) ∧ Hid (St w wr wr.heap.size [.box w.heap.size [.slice A1 r.room.length c1, .slice A2 r.strs.length c2]])) (fun _ i _ => l.length - (intOf i).toNat)
  case atStart => exact ⟨0, by omega, rfl, rfl, Lib.hid S.out.fix⟩
  case round =>
    clear S
    obtain ⟨k, hk, rfl, rfl, S⟩ := hrel
    by_cases hlt : k < l.length
    · have hlt2 : k < r.strs.length := by have := HN.out; omega
      have hki2 : (k : Int) < (r.strs.length : Int) := by omega
      obtain ⟨b1, o1, rfl, hb1, hcell1⟩ := HLC.out (by omega)
      obtain ⟨b2, o2, rfl, hb2, hcell2⟩ := HSC.out (by omega)
      obtain ⟨z0, z1, z2, z3⟩ := hcell2 k hlt2
      have x0 := keep_cell S.out.bel (hcell1 k hlt)
      have z0 := keep_cell S.out.bel z0
      have z1 := keep_cell S.out.bel z1
      have z2 := keep_cell S.out.bel z2
      have z3 := keep_cell S.out.bel z3
      clear hcell1 hcell2
      have hsm := HIN.out.sml (fun s hs => (HVD.out.so s hs).1) k hlt2 hlt
      have hstep := sumW_snoc stepsI r.strs l k hlt2 hlt
      obtain ⟨s, hs⟩ : ∃ s, r.strs[k] = s := ⟨_, rfl⟩
      obtain ⟨hh, hhe⟩ : ∃ x, l[k] = x := ⟨_, rfl⟩
      rw [hs] at z0 z1 z2 z3 hsm hstep
      rw [hhe] at x0 hsm hstep
      have hb := costTo_bd HIN.out (fun s hs => (HVD.out.so s hs).1) HVD.out.sl k
      obtain ⟨n0, hn0⟩ : ∃ x, sumW stepsI (r.strs.take k) (l.take k) = x := ⟨_, rfl⟩
      rw [hn0] at hb hstep ⊢
      have hsb := stepsI_bd hsm
      obtain ⟨n1, hn1⟩ : ∃ x, stepsI s hh = x := ⟨_, rfl⟩
      rw [hn1] at hsb hstep
      have HST := Lib.hid hstep
      have HN1 := Lib.hid hn1
      have HSM := Lib.hid hsm
      obtain ⟨hb3, hb4⟩ := hb
      obtain ⟨hs3, hs4⟩ := hsb
      clear hs hhe hstep hsm hn0 hn1
      have q1 := S.out.get 0 1 rfl rfl
      go_wp2_with fail
      refine (steps_any s hh _ HSM.out).mono ?_
      rintro e w2 ⟨rfl, hb⟩
      rw [HN1.out]
      have S := Lib.hid (S.out.call hb)
      clear hb x0 z0 z1 z2 z3 q1
      go_wp2_with fail
      go_roundw
      case rel => exact ⟨k + 1, by omega, by go_num, by rw [HST.out], S⟩
      case measure => first | (simp [intOf]; done) | (simp [intOf]; omega)
    · have HE := Lib.hid (show sumW stepsI (r.strs.take k) (l.take k) = costL r.strs l by
        rw [show k = r.strs.length by have := HN.out; omega]
        exact sumW_all stepsI HN.out)
      go_wp2_with fail
      go_ret
      exact ⟨by rw [HE.out]; rfl, S.out.bel⟩

set_option maxRecDepth 20000 in
set_option maxHeartbeats 2000000 in
theorem given_any (v v2 : Value) (r : Ros) (l : List Int) (w : World) (hv : RosAt w v r) (hl : Ints w v2 l) (hlen : l.length ≤ 1000) :
    Calls Try.prog 66 #[v, v2] w fun e w' => e = .returned (I (givenE r l)) ∧ Below w.heap.size w w' := by
  obtain ⟨rv, sv, rfl, hr, hs⟩ := hv
  obtain ⟨A1, c1, rfl, hr1, hr2, -⟩ := hr.open_
  obtain ⟨A2, c2, rfl, hs1, hs2, -⟩ := hs.open_
  have HR := Lib.hid hr
  have HS := Lib.hid hs
  clear hr hs
  have S := Lib.hid (show St w (w.alloc (.cells #[.slice A1 r.room.length c1, .slice A2 r.strs.length c2] 25)) (w.heap.size + 1) [.box w.heap.size [.slice A1 r.room.length c1, .slice A2 r.strs.length c2]] from (St.init w).alloc [.slice A1 r.room.length c1, .slice A2 r.strs.length c2] 25)
  have HL := Lib.hid hl
  obtain ⟨Al, cl, rfl, -, -, -⟩ := id hl.open_
  clear hl
  have q0 := S.out.get 0 0 rfl rfl
  have q1 := S.out.get 0 1 rfl rfl
  cases hvd : valid r
  · have HC := Lib.hid (show chk r = 80 by simp [chk, hvd])
    have HE := Lib.hid (show givenE r l = 80 by simp [givenE, hvd])
    clear hvd
    go_enter Try.func66, Try.ntmps66
    go_wp2_with fail
    clear q0 q1
    refine (check_any _ r _ ⟨_, _, rfl, HR.out.below S.out.bel, HS.out.below S.out.bel⟩).mono ?_
    rintro e w1 ⟨rfl, hb⟩
    rw [HC.out]
    have S := Lib.hid (S.out.call hb)
    clear hb
    go_wp2_with fail
    go_ret
    exact ⟨by rw [HE.out]; rfl, S.out.bel⟩
  · have HC := Lib.hid (show chk r = 0 by simp [chk, hvd])
    have HE := Lib.hid (show givenE r l = askE r (newB r l) by simp [givenE, askE, hvd])
    have HVD := Lib.hid (valid_iff.1 hvd)
    clear hvd
    go_enter Try.func66, Try.ntmps66
    go_wp2_with fail
    clear q0 q1
    refine (check_any _ r _ ⟨_, _, rfl, HR.out.below S.out.bel, HS.out.below S.out.bel⟩).mono ?_
    rintro e w1 ⟨rfl, hb⟩
    rw [HC.out]
    have S := Lib.hid (S.out.call hb)
    clear hb
    go_wp2_with fail
    refine wp_region_seg [([0, 1, 2], 3), ([], 4)] [5] [] 6 (by kernel_rfl) (by kernel_rfl) ?_
    intro KQ hKQ w2 hb
    have S := Lib.hid (S.out.call hb)
    clear hb
    have q0_0 := cell_regrown (S.out.get 0 0 rfl rfl)
    have q0_1 := cell_regrown (S.out.get 0 1 rfl rfl)
    refine seg_next ?_
    simp only [opsAt, List.filterMap_cons, List.filterMap_nil, List.getElem?_toArray, List.getElem?_cons_succ, List.getElem?_cons_zero]
    repeat (first | go_big_quiet_step (fail) | quiet_step (fail))
    refine wpQuiet_nil ?_
    intro K hK
    refine loud_op rfl rfl ?_
    go_simp
    refine (good_any _ _ r l _ ⟨_, _, rfl, HR.out.below S.out.bel, HS.out.below S.out.bel⟩ HVD.out (HL.out.below S.out.bel) hlen).mono ?_
    rintro e w3 ⟨rfl, hb⟩
    have S := Lib.hid (S.out.call hb)
    refine hK _ _ hb ?_
    clear hK K hb
    refine seg_next ?_
    simp only [opsAt, List.filterMap_nil]
    refine wpQuiet_nil ?_
    intro K hK
    refine loud_op rfl rfl ?_
    go_simp
    refine (ask_any _ r (newB r l) _ ⟨_, _, rfl, HR.out.below S.out.bel, HS.out.below S.out.bel⟩).mono ?_
    rintro e w4 ⟨rfl, hb⟩
    have S := Lib.hid (S.out.call hb)
    refine hK _ _ hb ?_
    clear hK K hb q0_0 q0_1
    refine seg_last ?_
    simp only [opsAt, List.filterMap_cons, List.filterMap_nil, List.getElem?_toArray, List.getElem?_cons_succ, List.getElem?_cons_zero]
    repeat (first | go_big_quiet_step (fail) | quiet_step (fail))
    refine wpQuiet_nil ?_
    go_wp2_with fail
    go_ret
    exact ⟨by rw [HE.out]; rfl, S.out.bel⟩

def pGoodR (r : Ros) (l : List Int) : Bool × Int := if valid r then (newB r l, 0) else (false, 80)
set_option maxRecDepth 20000 in
set_option maxHeartbeats 2000000 in
theorem pGood_any (v v2 : Value) (r : Ros) (l : List Int) (w : World) (hv : RosAt w v r) (hl : Ints w v2 l) (hlen : l.length ≤ 1000) :
    Calls Try.prog 40 #[v, v2] w fun e w' => e = .returned (.tuple #[.bool (pGoodR r l).1, I (pGoodR r l).2]) ∧ Below w.heap.size w w' := by
  obtain ⟨rv, sv, rfl, hr, hs⟩ := hv
  obtain ⟨A1, c1, rfl, hr1, hr2, -⟩ := hr.open_
  obtain ⟨A2, c2, rfl, hs1, hs2, -⟩ := hs.open_
  have HR := Lib.hid hr
  have HS := Lib.hid hs
  clear hr hs
  have S := Lib.hid (show St w (w.alloc (.cells #[.slice A1 r.room.length c1, .slice A2 r.strs.length c2] 25)) (w.heap.size + 1) [.box w.heap.size [.slice A1 r.room.length c1, .slice A2 r.strs.length c2]] from (St.init w).alloc [.slice A1 r.room.length c1, .slice A2 r.strs.length c2] 25)
  have HL := Lib.hid hl
  obtain ⟨Al, cl, rfl, -, -, -⟩ := id hl.open_
  clear hl
  have q0 := S.out.get 0 0 rfl rfl
  have q1 := S.out.get 0 1 rfl rfl
  cases hvd : valid r
  · have HC := Lib.hid (show chk r = 80 by simp [chk, hvd])
    have HE := Lib.hid (show pGoodR r l = (false, 80) by simp [pGoodR, hvd])
    clear hvd
    go_enter Try.func40, Try.ntmps40
    go_wp2_with fail
    clear q0 q1
    refine (check_any _ r _ ⟨_, _, rfl, HR.out.below S.out.bel, HS.out.below S.out.bel⟩).mono ?_
    rintro e w1 ⟨rfl, hb⟩
    rw [HC.out]
    have S := Lib.hid (S.out.call hb)
    clear hb
    go_wp2_with fail
    go_ret2
    exact ⟨by rw [HE.out]; rfl, S.out.bel⟩
  · have HC := Lib.hid (show chk r = 0 by simp [chk, hvd])
    have HE := Lib.hid (show pGoodR r l = (newB r l, 0) by simp [pGoodR, hvd])
    have HVD := Lib.hid (valid_iff.1 hvd)
    clear hvd
    go_enter Try.func40, Try.ntmps40
    go_wp2_with fail
    clear q0 q1
    refine (check_any _ r _ ⟨_, _, rfl, HR.out.below S.out.bel, HS.out.below S.out.bel⟩).mono ?_
    rintro e w1 ⟨rfl, hb⟩
    rw [HC.out]
    have S := Lib.hid (S.out.call hb)
    clear hb
    have q0 := S.out.get 0 0 rfl rfl
    have q1 := S.out.get 0 1 rfl rfl
    go_wp2_with fail
    clear q0 q1
    refine (good_any _ _ r l _ ⟨_, _, rfl, HR.out.below S.out.bel, HS.out.below S.out.bel⟩ HVD.out (HL.out.below S.out.bel) hlen).mono ?_
    rintro e w3 ⟨rfl, hb⟩
    have S := Lib.hid (S.out.call hb)
    clear hb
    go_wp2_with fail
    go_ret2
    exact ⟨by rw [HE.out]; rfl, S.out.bel⟩

end Go.Proofs.Ytokendenofbnhaa
