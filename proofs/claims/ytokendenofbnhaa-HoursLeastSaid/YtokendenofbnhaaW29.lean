/- Walks: the reference's FarOf, Lacks. -/
import Derived.Test.YtokendenofbnhaaW28
import Derived.Test.YtokendenofbnhaaW26
namespace Go.Proofs.Ytokendenofbnhaa
open Go.RowKit Go.Sort

/-- The farthest move, as far as a loop has come. -/
def farTo (ss : List Str) (l : List Int) : Nat → Int
  | 0 => 0
  | k + 1 => max (farTo ss l k) (moveI (ss.getD k default) (l.getD k 0))
theorem farTo_bd {ss : List Str} {l : List Int} (hs : ∀ s ∈ ss, StrOk s) (hin : InL ss l) : ∀ k, k ≤ ss.length → 0 ≤ farTo ss l k ∧ farTo ss l k ≤ 8
  | 0, _ => by simp [farTo]
  | k + 1, h => by
    have h1 := farTo_bd hs hin k (by omega)
    have hk : k < l.length := by have := hin.len; omega
    have hi := hin.inn k (by omega) hk
    have hm := moveI_le7 (hs _ (List.getElem_mem (show k < ss.length by omega))) hi.1 hi.2
    have hm0 := moveI_nonneg ss[k] l[k]
    have e : farTo ss l (k + 1) = max (farTo ss l k) (moveI (ss.getD k default) (l.getD k 0)) := rfl
    rw [e, show ss.getD k default = ss[k] by simp [List.getD_eq_getElem?_getD, List.getElem?_eq_getElem (show k < ss.length by omega)], show l.getD k 0 = l[k] by simp [List.getD_eq_getElem?_getD, List.getElem?_eq_getElem hk]]
    omega
theorem farTo_iff {ss : List Str} {l : List Int} {n : Int} (h0 : 0 ≤ n) (hlen : l.length = ss.length) : ∀ k, k ≤ ss.length → (farTo ss l k ≤ n ↔ ∀ j (h1 : j < ss.length) (h2 : j < l.length), j < k → moveI ss[j] l[j] ≤ n)
  | 0, _ => by simp [farTo, h0]
  | k + 1, h => by
    have ih := farTo_iff h0 hlen k (by omega)
    have hk : k < l.length := by omega
    have e : farTo ss l (k + 1) = max (farTo ss l k) (moveI (ss.getD k default) (l.getD k 0)) := rfl
    rw [e, show ss.getD k default = ss[k] by simp [List.getD_eq_getElem?_getD, List.getElem?_eq_getElem (show k < ss.length by omega)], show l.getD k 0 = l[k] by simp [List.getD_eq_getElem?_getD, List.getElem?_eq_getElem hk]]
    constructor
    · intro hm j h1 h2 hj
      by_cases e : j = k
      · subst e; omega
      · exact ih.1 (by omega) j h1 h2 (by omega)
    · intro hp
      have a := ih.2 fun j h1 h2 hj => hp j h1 h2 (by omega)
      have b := hp k (by omega) hk (by omega)
      omega
def farOf (ss : List Str) (l : List Int) : Int := farTo ss l l.length
theorem farOf_iff {ss : List Str} {l : List Int} {n : Int} (h0 : 0 ≤ n) (hlen : l.length = ss.length) : farOf ss l ≤ n ↔ nearL n ss l := by
  unfold farOf
  rw [farTo_iff h0 hlen l.length (by omega)]
  exact ⟨fun h j h1 h2 => h j h1 h2 h2, fun h j h1 h2 _ => h j h1 h2⟩

set_option maxRecDepth 20000 in
set_option maxHeartbeats 4000000 in
theorem farOf_any (v v2 : Value) (r : Ros) (l : List Int) (w : World) (hv : RosAt w v r) (hvd : ROk r) (hl : Ints w v2 l) (hin : InL r.strs l) :
    Calls Try.prog 60 #[v, v2] w fun e w' => e = .returned (I (farOf r.strs l)) ∧ Below w.heap.size w w' := by
  obtain ⟨rv, sv, rfl, hr, hs⟩ := hv
  obtain ⟨A1, c1, rfl, hr1, hr2, -⟩ := hr.open_
  obtain ⟨A2, c2, rfl, hs1, hs2, -⟩ := hs.open_
  have HR := Lib.hid hr
  have HS := Lib.hid hs
  clear hr hs
  have S := Lib.hid (show St w (w.alloc (.cells #[.slice A1 r.room.length c1, .slice A2 r.strs.length c2] 25)) (w.heap.size + 1) [.box w.heap.size [.slice A1 r.room.length c1, .slice A2 r.strs.length c2]] from (St.init w).alloc [.slice A1 r.room.length c1, .slice A2 r.strs.length c2] 25)
  obtain ⟨Al, cl, rfl, hl1, hl2, hlc⟩ := hl.open_
  have HLC := Lib.hid hlc
  obtain ⟨_, _, e, _, _, hsc⟩ := HS.out.open_
  injection e with e1 e2 e3
  subst e1
  have HSC := Lib.hid hsc
  have hl6 : l.length ≤ 6 := by rw [hin.len]; exact hvd.sl
  have HN := Lib.hid hin.len
  have HIN := Lib.hid hin
  have HVD := Lib.hid hvd
  clear e2 e3 hlc hl hsc hin hvd
  go_enter Try.func60, Try.ntmps60
  go_wp2_with fail
  go_loopw [5, 6] (fun u i wr => ∃ (k : Nat), k ≤ l.length ∧ i = I k ∧ u = I (farTo r.strs l k) ∧ Hid (St w wr wr.heap.size [.box w.heap.size [.slice A1 r.room.length c1, .slice A2 r.strs.length c2]])) (fun _ i _ => l.length - (intOf i).toNat)
  case atStart => exact ⟨0, by omega, rfl, rfl, Lib.hid S.out.fix⟩
  case round =>
    clear S
    obtain ⟨k, hk, rfl, rfl, S⟩ := hrel
    by_cases hlt : k < l.length
    · have hki : (k : Int) < (l.length : Int) := by omega
      have hlt2 : k < r.strs.length := by have := HN.out; omega
      have hki2 : (k : Int) < (r.strs.length : Int) := by omega
      obtain ⟨b1, o1, rfl, hb1, hcell1⟩ := HLC.out (by omega)
      obtain ⟨b2, o2, rfl, hb2, hcell2⟩ := HSC.out (by omega)
      have hy := hcell2 k hlt2
      have x0 := hcell1 k hlt
      clear hcell1 hcell2
      have hsm := HIN.out.sml (fun s hs => (HVD.out.so s hs).1) k hlt2 hlt
      have hbd := farTo_bd HVD.out.strs HIN.out k (by omega)
      have hstep : farTo r.strs l (k + 1) = max (farTo r.strs l k) (moveI r.strs[k] l[k]) := by
        simp only [farTo]
        rw [show r.strs.getD k default = r.strs[k] by simp [List.getD_eq_getElem?_getD, List.getElem?_eq_getElem hlt2], show l.getD k 0 = l[k] by simp [List.getD_eq_getElem?_getD, List.getElem?_eq_getElem hlt]]
      generalize farTo r.strs l k = acc at hstep hbd ⊢
      obtain ⟨s, hs⟩ : ∃ s, r.strs[k] = s := ⟨_, rfl⟩
      obtain ⟨hh, hhe⟩ : ∃ x, l[k] = x := ⟨_, rfl⟩
      rw [hs] at hy hsm hstep
      rw [hhe] at x0 hsm hstep
      obtain ⟨mv, hmv⟩ : ∃ x, moveI s hh = x := ⟨_, rfl⟩
      rw [hmv] at hstep
      have HST := Lib.hid hstep
      have HMV := Lib.hid hmv
      have HY := Lib.hid hy
      have X0 := Lib.hid x0
      have HSM := Lib.hid hsm
      clear hs hhe hmv hy x0 hsm hstep
      go_wp2_with fail
      refine wp_region_seg [([0, 1, 2, 3, 4, 5, 6, 7, 8, 9], 10)] [11, 12] [] 13 (by kernel_rfl) (by kernel_rfl) ?_
      intro KQ hKQ w2 hb
      have S := Lib.hid (S.out.call hb)
      clear hb
      have q1_1 := cell_regrown (S.out.get 0 1 rfl rfl)
      have y0 := cell_regrown (keep_cell S.out.bel HY.out.1)
      have y1 := cell_regrown (keep_cell S.out.bel HY.out.2.1)
      have y2 := cell_regrown (keep_cell S.out.bel HY.out.2.2.1)
      have y3 := cell_regrown (keep_cell S.out.bel HY.out.2.2.2)
      have y4 := cell_regrown (keep_cell S.out.bel X0.out)
      refine seg_next ?_
      simp only [opsAt, List.filterMap_cons, List.filterMap_nil, List.getElem?_toArray, List.getElem?_cons_succ, List.getElem?_cons_zero]
      repeat (first | go_big_quiet_step (fail) | quiet_step (fail))
      refine wpQuiet_nil ?_
      intro K hK
      refine loud_op rfl rfl ?_
      go_simp
      refine (rMove_any s hh _ HSM.out).mono ?_
      rintro e w3 ⟨rfl, hb⟩
      rw [HMV.out]
      have S := Lib.hid (S.out.call hb)
      refine hK _ _ hb ?_
      clear hK K hb q1_1 y0 y1 y2 y3 y4
      refine seg_last ?_
      simp only [opsAt, List.filterMap_cons, List.filterMap_nil, List.getElem?_toArray, List.getElem?_cons_succ, List.getElem?_cons_zero]
      repeat (first | go_big_quiet_step (fail) | quiet_step (fail))
      refine wpQuiet_nil ?_
      go_wp2_with fail
      try go_frame
      go_roundw
      case rel => exact ⟨k + 1, by omega, by go_num, by rw [HST.out], S⟩
      case measure => first | (simp [intOf]; done) | (simp [intOf]; omega)
    · obtain rfl : k = l.length := by omega
      go_wp2_with fail
      go_ret
      exact ⟨rfl, S.out.bel⟩

set_option maxRecDepth 20000 in
set_option maxHeartbeats 4000000 in
theorem rLacks_any (v : Value) (r : Ros) (lo hi : Nat) (w : World) (hv : RosAt w v r) (hvd : ROk r) (h1 : lo ≤ hi) (h2 : hi < r.room.length) :
    Calls Try.prog 59 #[v, .agg #[I (lo : Int), I (hi : Int)]] w fun e w' => e = .returned (.bool (lacksB r lo hi)) ∧ Below w.heap.size w w' := by
  obtain ⟨rv, sv, rfl, hr, hs⟩ := hv
  obtain ⟨A1, c1, rfl, hr1, hr2, -⟩ := hr.open_
  obtain ⟨A2, c2, rfl, hs1, hs2, -⟩ := hs.open_
  have HR := Lib.hid hr
  have HS := Lib.hid hs
  clear hr hs
  have S := Lib.hid (show St w (w.alloc (.cells #[.slice A1 r.room.length c1, .slice A2 r.strs.length c2] 25)) (w.heap.size + 1) [.box w.heap.size [.slice A1 r.room.length c1, .slice A2 r.strs.length c2]] from (St.init w).alloc [.slice A1 r.room.length c1, .slice A2 r.strs.length c2] 25)
  obtain ⟨_, _, e, _, _, hrc⟩ := HR.out.open_
  injection e with e1 e2 e3
  subst e1
  obtain ⟨b1, o1, rfl, hb1, hcell1⟩ := hrc (by omega)
  have HC1 := Lib.hid hcell1
  clear hrc e2 e3 hcell1
  obtain ⟨_, _, e, _, _, hsc⟩ := HS.out.open_
  injection e with e1 e2 e3
  subst e1
  have HSC := Lib.hid hsc
  clear hsc e2 e3
  have HVD := Lib.hid hvd
  have hrl := hvd.rl
  have hsl := hvd.sl
  clear hvd
  have S := Lib.hid (S.out.alloc [I (lo : Int), I (hi : Int)] 61)
  have x0 := S.out.get 0 0 rfl rfl
  go_enter Try.func59, Try.ntmps59
  go_wp2_with fail
  clear x0
  obtain ⟨m, hm⟩ : ∃ m, hi + 1 - lo = m := ⟨_, rfl⟩
  go_loopw [5, 6] (fun n i wr => ∃ k : Nat, k ≤ m ∧ i = I ((lo + k : Nat) : Int) ∧ n = I (- roomTo r.room lo k) ∧ Hid (St w wr wr.heap.size [.box (w.heap.size + 1) [I (lo : Int), I (hi : Int)], .box w.heap.size [.slice (some ⟨b1, o1, none⟩) r.room.length c1, .slice A2 r.strs.length c2]])) (fun _ i _ => hi + 1 - (intOf i).toNat)
  case atStart => exact ⟨0, by omega, rfl, by simp [roomTo], Lib.hid S.out.fix⟩
  case round =>
    clear S
    obtain ⟨k, hk, rfl, rfl, S⟩ := hrel
    have hbd := roomTo_bd HVD.out.rm lo k (by omega)
    have x1 := S.out.get 0 1 rfl rfl
    by_cases hkm : k < m
    · obtain ⟨j, hj⟩ : ∃ j, lo + k = j := ⟨_, rfl⟩
      have hjl : j < r.room.length := by omega
      have hji : (j : Int) < (r.room.length : Int) := by omega
      have hjh : (j : Int) ≤ (hi : Int) := by omega
      have y0 := HC1.out j hjl
      obtain ⟨x, hx⟩ : ∃ x, r.room[j] = x := ⟨_, rfl⟩
      have hxb := HVD.out.rm x (by rw [← hx]; exact List.getElem_mem _)
      have hsu := roomTo_succ (rm := r.room) (lo := lo) (k := k) (by omega)
      simp only [hj] at hsu
      rw [hx] at y0 hsu
      have y0 := keep_cell S.out.bel y0
      obtain ⟨z, hz⟩ : ∃ x, roomTo r.room lo k = x := ⟨_, rfl⟩
      rw [hz] at hbd hsu
      rw [hz]
      have hw : IntKind.i64.wrap (-z - x) = -(z + x) := by rw [IntWalk.i64_in _ (by omega)]; omega
      have HSU := Lib.hid hsu
      have HJ := Lib.hid hj
      rw [hj]
      clear hz hx hsu hj
      have q0 := S.out.get 1 0 rfl rfl
      have q1 := S.out.get 1 1 rfl rfl
      go_wp2_with fail
      go_roundw
      case rel => exact ⟨k + 1, by omega, by rw [← Nat.add_assoc, HJ.out]; go_num, by rw [HSU.out], S⟩
      case measure => first | (simp [intOf]; done) | (simp [intOf]; omega)
    · obtain rfl : k = m := by omega
      have hjh : ¬ ((lo + k : Nat) : Int) ≤ (hi : Int) := by omega
      go_wp2_with fail
      clear x1
      have hrm : roomTo r.room lo k = roomIn r.room lo hi := by unfold roomTo roomIn; rw [← hm]
      rw [hrm] at hbd
      obtain ⟨z, hz⟩ : ∃ x, roomIn r.room lo hi = x := ⟨_, rfl⟩
      rw [hz] at hbd
      rw [hrm, hz]
      have HZ := Lib.hid hz
      clear hrm hz
      obtain ⟨wf, rfl⟩ : ∃ wf : World, wf = wr := ⟨_, rfl⟩
      go_loopw [5, 7] (fun n i wr => ∃ j : Nat, j ≤ r.strs.length ∧ i = I j ∧ n = I (- z + (wantTo r.strs lo hi j : Int)) ∧ Hid (St w wr wr.heap.size [.box (w.heap.size + 1) [I (lo : Int), I (hi : Int)], .box w.heap.size [.slice (some ⟨b1, o1, none⟩) r.room.length c1, .slice A2 r.strs.length c2]])) (fun _ i _ => r.strs.length - (intOf i).toNat)
      case atStart => exact ⟨0, by omega, rfl, by simp [wantTo, wants], S⟩
      case round =>
        clear S
        obtain ⟨j, hj, rfl, rfl, S⟩ := hrel
        have hwb := wantTo_bd r.strs lo hi j
        have q0 := S.out.get 1 0 rfl rfl
        have q1 := S.out.get 1 1 rfl rfl
        by_cases hjl : j < r.strs.length
        · have hji : (j : Int) < (r.strs.length : Int) := by omega
          obtain ⟨b2, o2, rfl, hb2, hcell2⟩ := HSC.out (by omega)
          obtain ⟨y0, y1, y2, y3⟩ := hcell2 j hjl
          clear hcell2 hb2
          have hsu := wantTo_succ (ss := r.strs) (lo := lo) (hi := hi) hjl
          obtain ⟨s, hs⟩ : ∃ s, r.strs[j] = s := ⟨_, rfl⟩
          rw [hs] at y0 y1 y2 y3 hsu
          have HY1 := Lib.hid y1
          have HY2 := Lib.hid y2
          clear hs y0 y1 y2 y3
          obtain ⟨u, hu⟩ : ∃ x, wantTo r.strs lo hi j = x := ⟨_, rfl⟩
          rw [hu] at hwb hsu
          rw [hu]
          have HSU := Lib.hid hsu
          clear hu hsu
          have hw : IntKind.i64.wrap (-z + (u : Int) + 1) = -z + ((u + 1 : Nat) : Int) := by rw [IntWalk.i64_in _ (by omega)]; omega
          by_cases hA : (lo : Int) ≤ s.frm
          · by_cases hB : s.to ≤ (hi : Int)
            · go_wp2_with fail
              clear q0 q1
              have x0 := cell_regrown (S.out.get 0 0 rfl rfl)
              have x1 := cell_regrown (S.out.get 0 1 rfl rfl)
              have q1 := cell_regrown (S.out.get 1 1 rfl rfl)
              have y1 := cell_regrown (keep_cell S.out.bel HY1.out)
              have y2 := cell_regrown (keep_cell S.out.bel HY2.out)
              refine wp_region_quiet_below (by kernel_rfl) (by kernel_rfl) ?_
              repeat (go_big_quiet_step (fail))
              refine wpQuiet_nil ?_
              rintro w5 ⟨p5, hp5⟩
              have S := Lib.hid (show St w w5 w5.heap.size _ from (by rw [hp5]; exact S.out.call (below_regrown _ _ _)))
              clear hp5
              clear x0 x1 q1 y1 y2
              go_wp2_with fail
              go_roundw
              case rel => exact ⟨j + 1, by omega, by go_num, by rw [HSU.out, if_pos ⟨hA, hB⟩, Int.natCast_add]; rfl, Lib.hid S.out.fix⟩
              case measure => first | (simp [intOf]; done) | (simp [intOf]; omega)
            · go_wp2_with fail
              clear q0 q1
              have x0 := cell_regrown (S.out.get 0 0 rfl rfl)
              have x1 := cell_regrown (S.out.get 0 1 rfl rfl)
              have q1 := cell_regrown (S.out.get 1 1 rfl rfl)
              have y1 := cell_regrown (keep_cell S.out.bel HY1.out)
              have y2 := cell_regrown (keep_cell S.out.bel HY2.out)
              refine wp_region_quiet_below (by kernel_rfl) (by kernel_rfl) ?_
              repeat (go_big_quiet_step (fail))
              refine wpQuiet_nil ?_
              rintro w5 ⟨p5, hp5⟩
              have S := Lib.hid (show St w w5 w5.heap.size _ from (by rw [hp5]; exact S.out.call (below_regrown _ _ _)))
              clear hp5
              clear x0 x1 q1 y1 y2
              go_wp2_with fail
              go_roundw
              case rel => exact ⟨j + 1, by omega, by go_num, by rw [HSU.out, if_neg (fun h => by omega), Nat.add_zero], Lib.hid S.out.fix⟩
              case measure => first | (simp [intOf]; done) | (simp [intOf]; omega)
          · go_wp2_with fail
            clear q0 q1
            have x0 := cell_regrown (S.out.get 0 0 rfl rfl)
            have x1 := cell_regrown (S.out.get 0 1 rfl rfl)
            have q1 := cell_regrown (S.out.get 1 1 rfl rfl)
            have y1 := cell_regrown (keep_cell S.out.bel HY1.out)
            have y2 := cell_regrown (keep_cell S.out.bel HY2.out)
            have hA3 : ¬ (lo : Int) ≤ s.frm := by omega
            refine wp_region_quiet_below (by kernel_rfl) (by kernel_rfl) ?_
            repeat (go_big_quiet_step (fail))
            refine wpQuiet_nil ?_
            rintro w5 ⟨p5, hp5⟩
            have S := Lib.hid (show St w w5 w5.heap.size _ from (by rw [hp5]; exact S.out.call (below_regrown _ _ _)))
            clear hp5
            clear x0 x1 q1 y1 y2
            go_wp2_with fail
            go_roundw
            case rel => exact ⟨j + 1, by omega, by go_num, by rw [HSU.out, if_neg (fun h => by omega), Nat.add_zero], Lib.hid S.out.fix⟩
            case measure => first | (simp [intOf]; done) | (simp [intOf]; omega)
        · obtain rfl : j = r.strs.length := by omega
          obtain ⟨u, hu⟩ : ∃ x, wantTo r.strs lo hi r.strs.length = x := ⟨_, rfl⟩
          have hwu : wants r.strs lo hi = u := by rw [← hu]; unfold wantTo; rw [List.take_length]
          rw [hu]
          have HL := Lib.hid (show lacksB r lo hi = decide (0 < -z + (u : Int)) by unfold lacksB; rw [hwu, HZ.out]; congr 1; rw [eq_iff_iff]; omega)
          clear hu hwb hwu
          go_wp2_with fail
          go_ret
          exact ⟨by rw [HL.out]; rfl, S.out.bel⟩

end Go.Proofs.Ytokendenofbnhaa
