/- Walks: fair. -/
import Derived.Test.YtldcehhhndlhdaaGreatDoorC24
import Derived.Test.YtldcehhhndlhdaaGreatDoorC19
import Derived.Shelf.SlSortCmp.NoneTotal
import Derived.Ground.SlsfProg
import Derived.Lib.RowBridge
import Derived.Lib.SortBridge
import Derived.WalkKit
import Derived.Test.YtldcehhhndlhdaaGreatDoorC16
import Derived.Test.YtldcehhhndlhdaaGreatDoorC21
namespace Go.Proofs.YtldcehhhndlhdaaGreatDoor
open Go.RowKit Go.Sort Go.Shelf

/-- The numbers that lie in a block. -/
def readI (w : World) (g : Nat) (i : Nat) : Int := match w.cell? ⟨g, i, none⟩ with
  | some (.int _ x) => x
  | _ => 0
def lackSum (t : BTown) (w : World) (g : Nat) : Nat := (Bk.sumR t.bt.nH (Bk.lackH t.bt (readI w g))).toNat
theorem lack_congr {t : BTown} {d e : Nat → Int} (h : ∀ i, i < t.ys.length → d i = e i) : Bk.sumR t.bt.nH (Bk.lackH t.bt d) = Bk.sumR t.bt.nH (Bk.lackH t.bt e) :=
  Bk.sumR_congr fun x _ => by
    unfold Bk.lackH Bk.drawH
    rw [Bk.sumR_congr (g := fun i => if t.bt.hh i = x then e i else 0) (fun i hi => by rw [h i hi])]
theorem lackSum_of {t : BTown} {w0 w : World} {n : Nat} {L : List Item} (S : St w0 w n L) (i : Nat) {e g cap : Nat} {d : Nat → Int} (hi : L[i]? = some (.own e 1 (.slice (some ⟨g, 0, none⟩) t.ys.length cap) t.ys.length ((Bk.rowF t.ys.length d).map I))) : lackSum t w g = (Bk.sumR t.bt.nH (Bk.lackH t.bt d)).toNat := by
  unfold lackSum
  rw [lack_congr (t := t) (d := readI w g) (e := d) (fun j hj => ?_)]
  unfold readI
  rw [own_cell (S.own i hi) j _ (Bk.rowF_at d hj)]

set_option maxRecDepth 100000 in
set_option maxHeartbeats 8000000 in
theorem fair_any (v : Value) (t : BTown) (w : World) (hv : BAt w v t) (hval : bVal t = true) (h12 : t.ys.length ≤ 12) :
    Calls Tryz.prog 77 #[v, .agg #[I (-1), I (-1), I 0]] w fun e w' => ∃ v' d, e = .returned v' ∧ w'.ownsRow w.heap.size 3 1 v' t.ys.length ((Bk.rowF t.ys.length d).map I) ∧ Bk.Best t.bt d ∧ Below w.heap.size w w' := by
  obtain ⟨hv0, wv, yv, rfl, hh, hw, hy⟩ := hv
  obtain ⟨A1, c1, rfl, -, -, -⟩ := id hh.open_
  obtain ⟨A2, c2, rfl, -, -, -⟩ := id hw.open_
  obtain ⟨A3, c3, rfl, -, -, -⟩ := id hy.open_
  have HH := Lib.hid hh
  have HW := Lib.hid hw
  have HY := Lib.hid hy
  have HV := Lib.hid hval
  have HSM := Lib.hid (BTown.bt_sm hval)
  have S := Lib.hid (((St.init w).alloc [.slice A1 t.hs.length c1, .slice A2 t.ws.length c2, .slice A3 t.ys.length c3] 32).alloc [I (-1), I (-1), I 0] 109)
  clear hh hw hy hval
  go_enter Tryz.func77, Tryz.ntmps77
  go_wp2_with fail
  refine wp_region_seg [([0, 1, 2, 3, 4], 5), ([6], 7)] [8] [] 9 (by kernel_rfl) (by kernel_rfl) ?_
  intro KQ hKQ w1 hb
  have S := Lib.hid (S.out.call hb)
  clear hb
  have k0 := cell_regrown (S.out.get 1 0 rfl rfl)
  have k1 := cell_regrown (S.out.get 1 1 rfl rfl)
  have k2 := cell_regrown (S.out.get 1 2 rfl rfl)
  have p0 := cell_regrown (S.out.get 0 0 rfl rfl)
  have p1 := cell_regrown (S.out.get 0 1 rfl rfl)
  have p2 := cell_regrown (S.out.get 0 2 rfl rfl)
  refine seg_next ?_
  simp only [opsAt, List.filterMap_cons, List.filterMap_nil, List.getElem?_toArray, List.getElem?_cons_succ, List.getElem?_cons_zero]
  show wpQuiet _ _ _ _ [_, _, _, _, _] _
  repeat (first | go_big_quiet_step (fail) | quiet_step (fail))
  refine wpQuiet_nil ?_
  intro K hK
  refine loud_op rfl rfl ?_
  obtain ⟨i0, hi, hz0, hz1, hz2⟩ := info_parts (P := Tryz.prog) (e := 3) (z := .int .i64 0) (size := 1) (bytes := 8) (by kernel_rfl)
  refine wp_make (.tmp 14) (.tmp 14) 22 rfl w.heap.size 3 i0 (.int .i64 0) 1 Tryz.underlying22 hi hz0 hz1 .i64 .i64 _ _ t.ys.length rfl rfl rfl rfl (by rw [hz2]; omega) (by simp only [maxLen]; omega) S.out.bel.size ?_
  intro w2 hown hgr
  have hb : Below w1.heap.size w1 w2 := ⟨hgr.os, hgr.tape, hgr.output, hgr.size, fun k hk => hgr.block k hk (by simp)⟩
  have S := Lib.hid (S.out.made' hgr hown)
  rw [madeI'] at S
  refine hK _ _ hb ?_
  clear hK K hown hgr hb hz2 k0 k1 k2 p0 p1 p2 hi hz0 hz1
  obtain ⟨g, hg⟩ : ∃ g, w1.heap.size = g := ⟨_, rfl⟩
  rw [hg] at S ⊢
  clear hg
  refine seg_next ?_
  simp only [opsAt, List.filterMap_cons, List.filterMap_nil, List.getElem?_toArray, List.getElem?_cons_succ, List.getElem?_cons_zero]
  show wpQuiet _ _ _ _ [_] _
  repeat (first | go_big_quiet_step (fail) | quiet_step (fail))
  refine wpQuiet_nil ?_
  intro K hK
  refine loud_op rfl rfl ?_
  go_simp
  refine hK _ _ ((Below.refl _ _).alloc (Nat.le_refl _) _) ?_
  clear hK K
  have S2 := S.out.alloc (townC A1 A2 A3 (some ⟨g, 0, none⟩) c1 c2 c3 t.ys.length t) 119
  obtain ⟨w3, hw3⟩ : ∃ x, w2.alloc (.cells (townC A1 A2 A3 (some ⟨g, 0, none⟩) c1 c2 c3 t.ys.length t).toArray 119) = x := ⟨_, rfl⟩
  have S := Lib.hid (show St w w3 (w2.heap.size + 1) _ from by rw [← hw3]; exact S2)
  clear S2
  simp only [show (w2.alloc (.cells #[.slice A1 t.hs.length c1, .slice A2 t.ws.length c2, .slice A3 t.ys.length c3, I (-1), I (-1), I 0, .slice (some ⟨g, 0, none⟩) t.ys.length t.ys.length] 119)) = w3 from hw3]
  clear hw3
  obtain ⟨B, hB⟩ : ∃ B, w2.heap.size = B := ⟨_, rfl⟩
  simp only [hB] at S ⊢
  clear hB
  refine seg_last ?_
  simp only [opsAt, List.filterMap_cons, List.filterMap_nil, List.getElem?_toArray, List.getElem?_cons_succ, List.getElem?_cons_zero]
  show wpQuiet _ _ _ _ [_] _
  repeat (first | go_big_quiet_step (fail) | quiet_step (fail))
  refine wpQuiet_nil ?_
  go_simp
  refine hKQ _ _ ?_
  clear hKQ KQ
  have S := Lib.hid (show St w w3 w3.heap.size [.box B (townC A1 A2 A3 (some ⟨g, 0, none⟩) c1 c2 c3 t.ys.length t), .own 3 1 (.slice (some ⟨g, 0, none⟩) t.ys.length t.ys.length) t.ys.length ((Bk.rowF t.ys.length (fun _ => 0)).map I)] from by
    have h := S.out.fix.less (M := [.box B (townC A1 A2 A3 (some ⟨g, 0, none⟩) c1 c2 c3 t.ys.length t), .own 3 1 (.slice (some ⟨g, 0, none⟩) t.ys.length t.ys.length) t.ys.length ((List.replicate t.ys.length (0 : Int)).map I)]) (List.Sublist.cons_cons _ (List.Sublist.cons_cons _ (List.nil_sublist _)))
    rw [show Bk.rowF t.ys.length (fun _ => (0 : Int)) = List.replicate t.ys.length 0 by unfold Bk.rowF; rw [List.map_const', List.length_range]]
    exact h)
  have HF0 := Lib.hid (Bk.fit_zero HSM.out)
  go_wp2_with fail
  go_loopw [6] (fun _ wr => Hid (∃ d : Nat → Int, Bk.Fit t.bt d ∧ St w wr wr.heap.size [.box B (townC A1 A2 A3 (some ⟨g, 0, none⟩) c1 c2 c3 t.ys.length t), .own 3 1 (.slice (some ⟨g, 0, none⟩) t.ys.length t.ys.length) t.ys.length ((Bk.rowF t.ys.length d).map I)])) (fun _ wr => lackSum t wr g)
  case atStart => exact Lib.hid ⟨_, HF0.out, S.out⟩
  case round =>
    clear S HF0
    obtain ⟨d, hf, S'⟩ := hrel.out
    have S := Lib.hid S'
    have HF := Lib.hid hf
    have HM0 := Lib.hid (lackSum_of S' 1 rfl)
    clear hrel S' hf
    have HT := Lib.hid (show TownAt wr B t d from ⟨A1, A2, A3, (some ⟨g, 0, none⟩), c1, c2, c3, t.ys.length, fun i v hv => S.out.get 0 i rfl hv, HH.out.below S.out.bel, HW.out.below S.out.bel, HY.out.below S.out.bel, by have h := S.out.row 1 rfl; unfold Ints; rw [Bk.rowF_len]; exact h⟩)
    go_wp2_with fail
    refine (cheapest_any B t d wr HV.out h12 HF.out HT.out).mono ?_
    rintro e w5 ⟨pv, p, rfl, hown, hch, hb⟩
    have S := Lib.hid (S.out.take hb hown)
    obtain ⟨Ap, cp, rfl⟩ := own_shape hown
    have HCH := Lib.hid hch
    clear hb hown hch HT
    obtain ⟨c, hc⟩ : ∃ c, (Bk.endB t.bt d).c (Bk.sinkB t.bt) = c := ⟨_, rfl⟩
    rw [hc] at HCH ⊢
    have HC := Lib.hid hc
    clear hc
    have x6 := S.out.get 1 6 rfl rfl
    by_cases hge : 0 ≤ c
    · have HB := Lib.hid (show Bk.Best t.bt d from ⟨HF.out.div, fun e he => Bk.fit_best HSM.out HF.out (by rw [HC.out]; exact hge) he⟩)
      go_wp2_with fail
      go_ret
      exact ⟨_, d, rfl, S.out.own 2 rfl, HB.out, S.out.bel⟩
    · have hlt : c < 0 := by omega
      clear hge
      obtain ⟨p', hp', hlen, hpA, hfit, hsum⟩ := Bk.fit_next HSM.out HF.out (by rw [HC.out]; exact hlt)
      have hpe : p = p' := (HCH.out (by unfold Bk.farI; omega)).det hp'
      subst hpe
      have HPA := Lib.hid hpA
      have HFN := Lib.hid hfit
      have HSU := Lib.hid hsum
      have hp13 : p.length ≤ 13 := by
        have h1 := HSM.out.nW
        have h2 := HSM.out.nH
        unfold Bk.nodesB at hlen
        omega
      clear hp' hlen hpA hfit hsum HCH
      have S := Lib.hid (show St w w5 w5.heap.size [.own 124 5 (.slice Ap p.length cp) p.length (arcRow p), .box B (townC A1 A2 A3 (some ⟨g, 0, none⟩) c1 c2 c3 t.ys.length t), .own 3 1 (.slice (some ⟨g, 0, none⟩) t.ys.length t.ys.length) t.ys.length ((Bk.rowF t.ys.length (Bk.augB d (p.take 0))).map I)] from by rw [List.take_zero, Bk.aug_nil]; exact S.out)
      go_wp2_with fail
      clear x6
      go_loopw [31] (fun i wq => ∃ j : Nat, j ≤ p.length ∧ i = I j ∧ Hid (St w wq wq.heap.size [.own 124 5 (.slice Ap p.length cp) p.length (arcRow p), .box B (townC A1 A2 A3 (some ⟨g, 0, none⟩) c1 c2 c3 t.ys.length t), .own 3 1 (.slice (some ⟨g, 0, none⟩) t.ys.length t.ys.length) t.ys.length ((Bk.rowF t.ys.length (Bk.augB d (p.take j))).map I)])) (fun i _ => p.length - (intOf i).toNat)
      case atStart => exact ⟨0, by omega, rfl, S⟩
      case round =>
        clear S
        obtain ⟨j, hj, rfl, S⟩ := hrel
        by_cases hjl : j < p.length
        · have hji : (j : Int) < (p.length : Int) := by omega
          obtain ⟨gp, hgp⟩ := own_some (S.out.own 0 rfl) (by omega)
          subst hgp
          obtain ⟨y0, y1, y2, y3, y4⟩ := S.out.arc 0 rfl (k := j) hjl
          have HTK := Lib.hid (List.take_succ_eq_append_getElem hjl)
          obtain ⟨hmo, hwy⟩ := Bk.arcs_way _ (HPA.out _ (List.getElem_mem hjl))
          obtain ⟨a, ha⟩ : ∃ a, p[j] = a := ⟨_, rfl⟩
          rw [ha] at y0 y1 y2 y3 y4 HTK hmo hwy
          clear ha
          rcases hwy with hwy | ⟨i, him, hwy⟩
          · have HAU := Lib.hid (show Bk.augB d (p.take (j + 1)) = Bk.augB d (p.take j) by rw [HTK.out]; exact Bk.aug_skip d _ (by omega))
            have T := Lib.hid (S.out.alloc (arcCells a) 124)
            have z3 := T.out.get 0 3 rfl rfl
            have hneg : a.way < 0 := by omega
            clear hwy
            go_wp2_with fail
            go_roundw
            case rel => exact ⟨j + 1, by omega, by go_num, Lib.hid (by rw [HAU.out]; exact T.out.tail.fix)⟩
            case measure => first | (simp [intOf]; done) | (simp [intOf]; omega)
          · have HAU := Lib.hid (show Bk.augB d (p.take (j + 1)) = Bk.updF (Bk.augB d (p.take j)) i (Bk.augB d (p.take j) i + a.more) by rw [HTK.out]; exact Bk.aug_step d _ hwy)
            have hbd : -30 ≤ Bk.augB d (p.take j) i ∧ Bk.augB d (p.take j) i ≤ 30 := by
              have h1 := Bk.div_small HSM.out HF.out.div him
              have h2 := Bk.gain_bd (p.take j) i (fun a ha => (Bk.arcs_way a (HPA.out a (List.mem_of_mem_take ha))).1)
              rw [List.length_take] at h2
              unfold Bk.augB
              omega
            have him' : i < t.ys.length := him
            have T := Lib.hid (S.out.alloc (arcCells a) 124)
            have z3 := T.out.get 0 3 rfl rfl
            have hnn : 0 ≤ a.way := by omega
            have HWY := Lib.hid hwy
            clear hwy
            go_wp2_with fail
            clear z3 y0 y1 y2 y3 y4
            refine wp_region_seg [] [0, 1, 2, 3, 4, 5, 6, 7, 8, 9, 10, 11] [12] 12 (by kernel_rfl) (by kernel_rfl) ?_
            intro KQ hKQ wz hbz
            have T := Lib.hid (T.out.call hbz)
            clear hbz
            have z3 := cell_regrown (T.out.get 0 3 rfl rfl)
            have z4 := cell_regrown (T.out.get 0 4 rfl rfl)
            have x6 := cell_regrown (T.out.get 2 6 rfl rfl)
            have yi := cell_regrown (own_cell (T.out.own 3 rfl) i _ (Bk.rowF_at _ him'))
            have hii : (i : Int) < (t.ys.length : Int) := by omega
            rw [HWY.out] at z3
            refine seg_last ?_
            simp only [opsAt, List.filterMap_cons, List.filterMap_nil, List.getElem?_toArray, List.getElem?_cons_succ, List.getElem?_cons_zero]
            show wpQuiet _ _ _ _ [_, _, _, _, _, _, _, _, _, _, _, _] _
            repeat (first | go_big_quiet_step (fail) | quiet_step (fail))
            refine wpQuiet_nil ?_
            clear z3 z4 x6 yi
            have yi := own_cell (T.out.own 3 rfl) i _ (Bk.rowF_at _ him')
            have zi := (T.out.own 3 rfl).frozenAt i
            have T2 := T.out.put 3 i (I (Bk.augB d (p.take j) i + a.more)) rfl
            dsimp only [List.set_cons_zero, List.set_cons_succ] at T2
            rw [← List.map_set, Bk.rowF_upd, ← HAU.out] at T2
            have T2 := Lib.hid T2
            go_wp2_with fail
            go_roundw
            case rel => exact ⟨j + 1, by omega, by go_num, Lib.hid T2.out.tail.fix⟩
            case measure => first | (simp [intOf]; done) | (simp [intOf]; omega)
        · obtain rfl : j = p.length := by omega
          have HE := Lib.hid (show Bk.augB d (p.take p.length) = Bk.augB d p by rw [List.take_length])
          have HM1 := Lib.hid (lackSum_of S.out 2 rfl)
          go_wp2_with fail
          go_roundw
          case rel => exact Lib.hid ⟨_, HFN.out, by rw [← HE.out]; exact S.out.tail⟩
          case measure =>
            have h0 : 0 ≤ Bk.sumR t.bt.nH (Bk.lackH t.bt (Bk.augB d p)) := Bk.sumR_nonneg fun h hh => HFN.out.div.lack h hh
            have h1 := HSU.out
            rw [HM1.out, HM0.out, HE.out]
            omega

end Go.Proofs.YtldcehhhndlhdaaGreatDoor
/- The greatest first: slices.SortFunc by the shelf's contract; sorted. -/
namespace Go.Proofs.YtldcehhhndlhdaaGreatDoor
open Go.RowKit Go.Sort Go.Shelf
def Tryz.sortL_ren : Go.Shelf.Ren := ⟨fun | 6 => 75 | 15 => 84 | 14 => 83 | 28 => 94 | 29 => 95 | 20 => 86 | 21 => 87 | 22 => 88 | 23 => 89 | 24 => 90 | 25 => 91 | 26 => 92 | 27 => 93 | 46 => 97 | 47 => 98 | 48 => 99 | 49 => 100 | 50 => 101 | 57 => 104 | n => n, fun | 22 => 22 | 24 => 3 | 25 => 101 | 3 => 3 | 39 => 66 | 0 => 0 | 53 => 111 | 55 => 113 | 4 => 4 | 46 => 129 | 45 => 128 | 50 => 83 | 5 => 5 | 9 => 9 | 66 => 135 | 70 => 139 | 76 => 144 | 77 => 145 | n => n, fun | n => n⟩
theorem Tryz.sortL : Go.Proofs.SlLaysF.n6 Tryz.prog Tryz.sortL_ren where
  mixed := by kernel_rfl
  f6 := ⟨Tryz.f75.name, by kernel_rfl, Tryz.func75.trans (congrArg some (by kernel_rfl))⟩
  f14 := ⟨Tryz.f83.name, by kernel_rfl, Tryz.func83.trans (congrArg some (by kernel_rfl))⟩
  f15 := Tryz.func84.trans (congrArg some (by kernel_rfl))
  f20 := ⟨Tryz.f86.name, by kernel_rfl, Tryz.func86.trans (congrArg some (by kernel_rfl))⟩
  f21 := ⟨Tryz.f87.name, by kernel_rfl, Tryz.func87.trans (congrArg some (by kernel_rfl))⟩
  f22 := ⟨Tryz.f88.name, by kernel_rfl, Tryz.func88.trans (congrArg some (by kernel_rfl))⟩
  f23 := ⟨Tryz.f89.name, by kernel_rfl, Tryz.func89.trans (congrArg some (by kernel_rfl))⟩
  f24 := ⟨Tryz.f90.name, by kernel_rfl, Tryz.func90.trans (congrArg some (by kernel_rfl))⟩
  f25 := ⟨Tryz.f91.name, by kernel_rfl, Tryz.func91.trans (congrArg some (by kernel_rfl))⟩
  f26 := ⟨Tryz.f92.name, by kernel_rfl, Tryz.func92.trans (congrArg some (by kernel_rfl))⟩
  f27 := ⟨Tryz.f93.name, by kernel_rfl, Tryz.func93.trans (congrArg some (by kernel_rfl))⟩
  f28 := Tryz.func94.trans (congrArg some (by kernel_rfl))
  f29 := Tryz.func95.trans (congrArg some (by kernel_rfl))
  f46 := ⟨Tryz.f97.name, by kernel_rfl, Tryz.func97.trans (congrArg some (by kernel_rfl))⟩
  f47 := Tryz.func98.trans (congrArg some (by kernel_rfl))
  f48 := Tryz.func99.trans (congrArg some (by kernel_rfl))
  f49 := ⟨Tryz.f100.name, by kernel_rfl, Tryz.func100.trans (congrArg some (by kernel_rfl))⟩
  f50 := ⟨Tryz.f101.name, by kernel_rfl, Tryz.func101.trans (congrArg some (by kernel_rfl))⟩
  f57 := ⟨Tryz.f104.name, by kernel_rfl, Tryz.func104.trans (congrArg some (by kernel_rfl))⟩
  t0 := Tryz.underlying0
  a0 := Tryz.isAgg0
  z0 := Tryz.sizeOf0
  v0 := Tryz.zeroValue0
  t3 := Tryz.underlying3
  a3 := Tryz.isAgg3
  z3 := Tryz.sizeOf3
  v3 := Tryz.zeroValue3
  t4 := Tryz.underlying4
  a4 := Tryz.isAgg4
  z4 := Tryz.sizeOf4
  v4 := Tryz.zeroValue4
  t5 := Tryz.underlying5
  a5 := Tryz.isAgg5
  z5 := Tryz.sizeOf5
  v5 := Tryz.zeroValue5
  t9 := Tryz.underlying9
  a9 := Tryz.isAgg9
  z9 := Tryz.sizeOf9
  v9 := Tryz.zeroValue9
  t22 := Tryz.underlying22
  a22 := Tryz.isAgg22
  z22 := Tryz.sizeOf22
  v22 := Tryz.zeroValue22
  a24 := Tryz.isAgg3
  z24 := Tryz.sizeOf3
  t25 := Tryz.underlying101
  a25 := Tryz.isAgg101
  z25 := Tryz.sizeOf101
  v25 := Tryz.zeroValue101
  t39 := Tryz.underlying66
  a39 := Tryz.isAgg66
  z39 := Tryz.sizeOf66
  v39 := Tryz.zeroValue66
  t45 := Tryz.underlying128
  a45 := Tryz.isAgg128
  z45 := Tryz.sizeOf128
  v45 := Tryz.zeroValue128
  t46 := Tryz.underlying129
  a46 := Tryz.isAgg129
  z46 := Tryz.sizeOf129
  v46 := Tryz.zeroValue129
  t50 := Tryz.underlying83
  a50 := Tryz.isAgg83
  z50 := Tryz.sizeOf83
  v50 := Tryz.zeroValue83
  t53 := Tryz.underlying111
  a53 := Tryz.isAgg111
  z53 := Tryz.sizeOf111
  v53 := Tryz.zeroValue111
  t55 := Tryz.underlying113
  a55 := Tryz.isAgg113
  z55 := Tryz.sizeOf113
  v55 := Tryz.zeroValue113
  t66 := Tryz.underlying135
  a66 := Tryz.isAgg135
  z66 := Tryz.sizeOf135
  v66 := Tryz.zeroValue135
  t70 := Tryz.underlying139
  a70 := Tryz.isAgg139
  z70 := Tryz.sizeOf139
  v70 := Tryz.zeroValue139
  t76 := Tryz.underlying144
  a76 := Tryz.isAgg144
  z76 := Tryz.sizeOf144
  v76 := Tryz.zeroValue144
  t77 := Tryz.underlying145
  a77 := Tryz.isAgg145
  z77 := Tryz.sizeOf145
  v77 := Tryz.zeroValue145

/-- The greatest first. -/
def descL (l : List Int) : List Int := l.mergeSort fun x y => decide (y ≤ x)
theorem descL_perm (l : List Int) : (descL l).Perm l := List.mergeSort_perm _ _
theorem descL_len (l : List Int) : (descL l).length = l.length := (descL_perm l).length_eq
theorem descL_sorted (l : List Int) : Bk.SortD (descL l) := by
  have := List.pairwise_mergeSort (le := fun x y : Int => decide (y ≤ x)) (fun a b c h1 h2 => by simp at *; omega) (fun a b => by simp; omega) l
  exact this.imp (by intro a b h; simpa using h)
def cfB (x y : Int) : Int := cmpI y x
theorem ltB (x y : Int) : ltOf cfB x y = decide (y < x) := by
  unfold ltOf cfB cmpI
  by_cases h1 : y < x
  · simp [h1]
  · by_cases h2 : x < y <;> simp [h1, h2]
theorem swoB : SWO (ltOf cfB) where
  irrefl x := by rw [ltB]; simp
  trans x y z h1 h2 := by rw [ltB] at *; simp at *; omega
  ntrans x y z h1 h2 := by rw [ltB] at *; simp at *; omega
theorem totB' (x y : Int) (h1 : ltOf cfB x y = false) (h2 : ltOf cfB y x = false) : x = y := by rw [ltB] at *; simp at *; omega
theorem geB : (fun x y : Int => !ltOf cfB y x) = fun x y => decide (y ≤ x) := by
  funext x y
  rw [ltB]
  by_cases h : y ≤ x
  · have h' : ¬ x < y := by omega
    simp [h, h']
  · have h' : x < y := by omega
    simp [h, h']
theorem cmpReadsB (blk off size : Nat) (w : World) : CmpReads Tryz.prog 76 #[] (Value.int .i64) cfB blk off size w := fun _ _ _ _ x y => (sorted1_any x y _).mono fun _ _ ⟨he, hw⟩ => ⟨he, 0, hw.symm⟩

set_option maxHeartbeats 1000000 in
/-- A row of the call's own is sorted. -/
theorem sortRow_any {w0 w : World} {n : Nat} {L : List Item} (S : St w0 w n L) (i : Nat) {e : TypeId} {v : Value} {xs : List Int} (hi : L[i]? = some (.own e 1 v xs.length (xs.map I))) (h63 : xs.length ≤ 1000) :
    Calls Tryz.prog 75 #[v, .func (.func 76) #[] #[]] w fun e' w' => e' = .returned (.tuple #[]) ∧ St w0 w' w'.heap.size (L.set i (.own e 1 v xs.length ((descL xs).map I))) := by
  have ho := S.own i hi
  rcases ho.2 with ⟨rfl, h0⟩ | ⟨g, cap, cur, rfl, hb, hh, h1⟩
  · have hn : xs = [] := List.eq_nil_of_length_eq_zero h0
    subst hn
    refine (AnyF.slices_SortFunc_none (P := Tryz.prog) (ρ := Tryz.sortL_ren) { Tryz.sortL with } none 0 (.func (.func 76) #[] #[]) w).mono ?_
    rintro e' w' ⟨rfl, rfl⟩
    refine ⟨rfl, ?_⟩
    have e2 : L.set i (.own e 1 (.slice none 0 0) 0 []) = L := by
      apply List.ext_getElem?
      intro j
      rw [List.getElem?_set]
      split
      · rename_i hj
        subst hj
        rw [hi, if_pos (List.getElem?_eq_some_iff.1 hi).1]
        rfl
      · rfl
    have e3 : (descL []).map I = [] := by simp [descL]
    rw [e3]
    show St w0 w' w'.heap.size (L.set i (.own e 1 (.slice none 0 0) 0 []))
    rw [e2]
    exact S.fix
  · have hl : xs.toArray.size = xs.length := by simp
    have hH : Holds (Value.int .i64) w g 0 xs.toArray := by
      have := Lib.holds_of_ints (w := w) (b := g) (off := 0) (n := xs.length) (zs := xs) (Nat.le_refl _) (fun j hj => by
        have hx : xs[j]? = some xs[j] := List.getElem?_eq_getElem hj
        rw [Nat.zero_add, own_cell ho j _ hx]
        simp [List.getD, hx]) (fun j hj => by rw [Nat.zero_add]; exact ho.frozenAt j)
      rwa [List.take_of_length_le (Nat.le_refl _)] at this
    have hlt : g < w.heap.size := lt_of_block hh
    have eg : ∀ args w, (callFunc 76 args).run Tryz.prog w = .ok (.enter 76 args) w := enters_of Tryz.func76 (by kernel_rfl) rfl
    have hS := Any.slices_SortFunc_total Tryz.sortL (Value.int .i64) (fun _ => rfl) cfB swoB 76 #[] g 0 cap xs.toArray w eg (cmpReadsB g 0 xs.toArray.size w).lays hH hlt (by rw [hl]; omega) totB'
    rw [geB, hl] at hS
    refine hS.mono ?_
    rintro e' w' ⟨rfl, q, os, rfl⟩
    refine ⟨rfl, ?_⟩
    have hw := Lib.sorted_world (Value.int .i64) w g 0 q xs.toArray (descL xs) os hH (by simp [descL_len])
    have hr : sortWorld (Value.int .i64) w g 0 q (descL xs).toArray os = grow ((w.drewN q).setCells g 0 ((descL xs).map I)) os := hw
    have S1 : St w0 (w.drewN q) n L := by
      have hz : (w.drewN q).heap.size = n := by rw [← S.size]; simp
      have := S.call (below_drewN (Below.refl w.heap.size w) q)
      rwa [hz] at this
    have S2 := St.puts ((descL xs).map I) 0 S1 hi
    have e4 : setsAt (xs.map I) 0 ((descL xs).map I) = (descL xs).map I := by
      have := setsAt_mid ((descL xs).map I) (xs.map I) [] [] (by simp [descL_len])
      simpa using this
    rw [e4] at S2
    have S3 : St w0 (grow ((w.drewN q).setCells g 0 ((descL xs).map I)) os) (grow ((w.drewN q).setCells g 0 ((descL xs).map I)) os).heap.size _ := S2.call (below_regrown _ ((w.drewN q).setCells g 0 ((descL xs).map I)).drawn os)
    rw [← hr] at S3
    exact S3

/-- sorted: the row itself, the greatest first. -/
theorem sorted_any {w0 w : World} {n : Nat} {L : List Item} (S : St w0 w n L) (i : Nat) {e : TypeId} {v : Value} {xs : List Int} (hi : L[i]? = some (.own e 1 v xs.length (xs.map I))) (h63 : xs.length ≤ 1000) :
    Calls Tryz.prog 42 #[v] w fun e' w' => e' = .returned v ∧ St w0 w' w'.heap.size (L.set i (.own e 1 v xs.length ((descL xs).map I))) := by
  have h := sortRow_any S i hi h63
  go_enter Tryz.func42, Tryz.ntmps42
  go_wp2_with fail
  refine h.mono ?_
  rintro e' w' ⟨rfl, h⟩
  go_wp2_with fail
  go_ret
  exact ⟨rfl, h⟩
end Go.Proofs.YtldcehhhndlhdaaGreatDoor
/- Walks: lacks, Lacks. -/
namespace Go.Proofs.YtldcehhhndlhdaaGreatDoor
open Go.RowKit Go.Sort Go.Shelf

/-- The wish for nothing lies where it lay at the start. -/
def NnAt (w : World) : Prop := w.cell? ⟨0, 0, none⟩ = some (I (-1)) ∧ w.cell? ⟨0, 1, none⟩ = some (I (-1)) ∧ w.cell? ⟨0, 2, none⟩ = some (I 0)
theorem NnAt.below {w w' : World} (h : NnAt w) (hb : Below w.heap.size w w') : NnAt w' := ⟨keep_cell hb h.1, keep_cell hb h.2.1, keep_cell hb h.2.2⟩
theorem lacksL_left (t : BTown) (d : Nat → Int) : (leftTo t d t.ys.length).1 = Bk.lacksL t.bt d := by
  apply List.ext_getElem?
  intro i
  by_cases h : i < t.hs.length
  · rw [lack_left h]
    unfold Bk.lacksL
    rw [List.getElem?_map, List.getElem?_range (show i < t.bt.nH from h)]
    rfl
  · rw [List.getElem?_eq_none (by rw [(leftTo_spec t d _).1]; omega), List.getElem?_eq_none (by unfold Bk.lacksL; simp; show t.hs.length ≤ i; omega)]

set_option maxRecDepth 100000 in
set_option maxHeartbeats 4000000 in
theorem lacks_any (v : Value) (t : BTown) (w : World) (hv : BAt w v t) (hn : NnAt w) (hval : bVal t = true) (h12 : t.ys.length ≤ 12) :
    Calls Tryz.prog 59 #[v] w fun e w' => ∃ v' d, e = .returned v' ∧ w'.ownsRow w.heap.size 3 1 v' t.hs.length ((descL (Bk.lacksL t.bt d)).map I) ∧ Bk.Best t.bt d ∧ Below w.heap.size w w' := by
  obtain ⟨hv0, wv, yv, rfl, hh, hw, hy⟩ := hv
  obtain ⟨A1, c1, rfl, -, -, -⟩ := id hh.open_
  obtain ⟨A2, c2, rfl, -, -, -⟩ := id hw.open_
  obtain ⟨A3, c3, rfl, -, -, -⟩ := id hy.open_
  have HH := Lib.hid hh
  have HW := Lib.hid hw
  have HY := Lib.hid hy
  have HV := Lib.hid hval
  have HNN := Lib.hid hn
  have HSM := Lib.hid (BTown.bt_sm hval)
  have hh6 := (bVal_spec hval).1
  have S := Lib.hid ((St.init w).alloc [.slice A1 t.hs.length c1, .slice A2 t.ws.length c2, .slice A3 t.ys.length c3] 32)
  clear hh hw hy hval hn
  go_enter Tryz.func59, Tryz.ntmps59
  go_wp2_with fail
  refine wp_region_seg [([0, 1, 2], 3), ([], 4)] [5, 6, 7, 8, 9] [] 10 (by kernel_rfl) (by kernel_rfl) ?_
  intro KQ hKQ w1 hb
  have S := Lib.hid (S.out.call hb)
  clear hb
  have k0 := cell_regrown (S.out.get 0 0 rfl rfl)
  have k1 := cell_regrown (S.out.get 0 1 rfl rfl)
  have k2 := cell_regrown (S.out.get 0 2 rfl rfl)
  have n0 := cell_regrown (HNN.out.below S.out.bel).1
  have n1 := cell_regrown (HNN.out.below S.out.bel).2.1
  have n2 := cell_regrown (HNN.out.below S.out.bel).2.2
  refine seg_next ?_
  simp only [opsAt, List.filterMap_cons, List.filterMap_nil, List.getElem?_toArray, List.getElem?_cons_succ, List.getElem?_cons_zero]
  show wpQuiet _ _ _ _ [_, _, _] _
  repeat (first | go_big_quiet_step (fail) | quiet_step (fail))
  refine wpQuiet_nil ?_
  intro K hK
  refine loud_op rfl rfl ?_
  go_simp
  refine (fair_any _ t _ ⟨_, _, _, rfl, HH.out.below S.out.bel, HW.out.below S.out.bel, HY.out.below S.out.bel⟩ HV.out h12).mono ?_
  rintro e w2 ⟨dv, d, rfl, hown, hbest, hb⟩
  have S := Lib.hid (S.out.take hb hown)
  obtain ⟨A4, c4, rfl⟩ := own_shape hown
  have HBE := Lib.hid hbest
  refine hK _ _ hb ?_
  clear hK K hb hown hbest k0 k1 k2 n0 n1 n2
  refine seg_next ?_
  simp only [opsAt, List.filterMap_nil]
  refine wpQuiet_nil ?_
  intro K hK
  refine loud_op rfl rfl ?_
  go_simp
  refine (left_any _ _ t d _ ⟨_, _, _, rfl, HH.out.below S.out.bel, HW.out.below S.out.bel, HY.out.below S.out.bel⟩ HV.out h12 (fun i hi => Bk.div_small HSM.out HBE.out.div hi) (by have h := S.out.row 0 rfl; unfold Ints; rw [Bk.rowF_len]; exact h)).mono ?_
  rintro e w3 ⟨v1, v2, rfl, SL⟩
  refine hK _ _ SL.bel ?_
  have S := Lib.hid (S.out.join SL)
  obtain ⟨B1, k1, rfl⟩ := own_shape (SL.own 0 rfl)
  obtain ⟨B2, k2, rfl⟩ := own_shape (SL.own 1 rfl)
  clear hK K SL
  refine seg_last ?_
  simp only [opsAt, List.filterMap_cons, List.filterMap_nil, List.getElem?_toArray, List.getElem?_cons_succ, List.getElem?_cons_zero]
  show wpQuiet _ _ _ _ [_, _, _, _, _] _
  repeat (first | go_big_quiet_step (fail) | quiet_step (fail))
  refine wpQuiet_nil ?_
  go_simp
  refine hKQ _ _ ?_
  clear hKQ KQ
  have hl : (leftTo t d t.ys.length).1.length = t.hs.length := (leftTo_spec t d _).1
  have S := Lib.hid (S.out.cut 1)
  have S := Lib.hid (show St w w3 w3.heap.size [.own 3 1 (.slice B1 t.hs.length k1) (leftTo t d t.ys.length).1.length ((leftTo t d t.ys.length).1.map I)] by rw [hl]; exact S.out)
  go_wp2_with fail
  refine (sorted_any S.out 0 rfl (by omega)).mono ?_
  rintro e w4 ⟨rfl, S2⟩
  have S2 := Lib.hid S2
  rw [hl, lacksL_left] at S2
  go_wp2_with fail
  go_ret
  exact ⟨_, d, rfl, S2.out.own 0 rfl, HBE.out, S2.out.bel⟩

set_option maxRecDepth 100000 in
set_option maxHeartbeats 4000000 in
theorem lacksK_any (v : Value) (t : BTown) (w : World) (hv : BAt w v t) (hn : NnAt w) (hval : bVal t = true) (h12 : t.ys.length ≤ 12) :
    Calls Tryz.prog 30 #[v] w fun e w' => ∃ v' d, e = .returned (.tuple #[v', I 0]) ∧ w'.ownsRow w.heap.size 3 1 v' t.hs.length ((descL (Bk.lacksL t.bt d)).map I) ∧ Bk.Best t.bt d ∧ Below w.heap.size w w' := by
  obtain ⟨hv0, wv, yv, rfl, hh, hw, hy⟩ := hv
  obtain ⟨A1, c1, rfl, -, -, -⟩ := id hh.open_
  obtain ⟨A2, c2, rfl, -, -, -⟩ := id hw.open_
  obtain ⟨A3, c3, rfl, -, -, -⟩ := id hy.open_
  have HH := Lib.hid hh
  have HW := Lib.hid hw
  have HY := Lib.hid hy
  have HV := Lib.hid hval
  have HNN := Lib.hid hn
  have HC := Lib.hid (show bChk t = 0 by unfold bChk bValid; rw [hval]; simp [h12])
  have S := Lib.hid ((St.init w).alloc [.slice A1 t.hs.length c1, .slice A2 t.ws.length c2, .slice A3 t.ys.length c3] 32)
  clear hh hw hy hval hn
  have q0 := S.out.get 0 0 rfl rfl
  have q1 := S.out.get 0 1 rfl rfl
  have q2 := S.out.get 0 2 rfl rfl
  go_enter Tryz.func30, Tryz.ntmps30
  go_wp2_with fail
  clear q0 q1 q2
  refine (kCheck_any _ t _ ⟨_, _, _, rfl, HH.out.below S.out.bel, HW.out.below S.out.bel, HY.out.below S.out.bel⟩).mono ?_
  rintro e w1 ⟨rfl, hb⟩
  rw [HC.out]
  have S := Lib.hid (S.out.call hb)
  clear hb
  have q0 := S.out.get 0 0 rfl rfl
  have q1 := S.out.get 0 1 rfl rfl
  have q2 := S.out.get 0 2 rfl rfl
  go_wp2_with fail
  clear q0 q1 q2
  refine (lacks_any _ t _ ⟨_, _, _, rfl, HH.out.below S.out.bel, HW.out.below S.out.bel, HY.out.below S.out.bel⟩ (HNN.out.below S.out.bel) HV.out h12).mono ?_
  rintro e w2 ⟨v', d, rfl, hown, hbest, hb⟩
  have S := Lib.hid (S.out.take hb hown)
  have HBE := Lib.hid hbest
  obtain ⟨A4, c4, rfl⟩ := own_shape hown
  clear hown hbest hb
  go_wp2_with fail
  refine bodyPost_ret (v := .tuple #[.slice A4 t.hs.length c4, I 0]) (by simp [results, go_sem]) rfl ⟨_, d, rfl, S.out.own 0 rfl, HBE.out, S.out.bel⟩
end Go.Proofs.YtldcehhhndlhdaaGreatDoor
/- Walks: Good, of a division. -/
namespace Go.Proofs.YtldcehhhndlhdaaGreatDoor
open Go.RowKit Go.Sort Go.Shelf

set_option maxRecDepth 20000 in
set_option maxHeartbeats 400000 in
theorem good1_any (n : Int) (w : World) (h : 0 ≤ n ∧ n ≤ 9) :
    Calls Tryz.prog 38 #[I n] w fun e w' => e = .returned (.bool false) ∧ w = w' := by
  have hin : inR n 0 9 = true := inR_iff.2 h
  go_enter Tryz.func38, Tryz.ntmps38
  go_wp2_with fail
  refine (kWithin_any _ _ _ _).mono ?_
  rintro e w1 ⟨rfl, rfl⟩
  rw [hin]
  go_wp2_with fail
  go_ret
  exact ⟨rfl, rfl⟩

set_option maxRecDepth 20000 in
set_option maxHeartbeats 400000 in
theorem good2_any (n : Int) (w : World) (h : 0 ≤ n) :
    Calls Tryz.prog 41 #[I n] w fun e w' => e = .returned (.bool false) ∧ w = w' := by
  have hn : decide (n < 0) = false := by simp; omega
  go_enter Tryz.func41, Tryz.ntmps41
  go_wp2_with fail
  go_ret
  exact ⟨by simp, rfl⟩

set_option maxRecDepth 20000 in
set_option maxHeartbeats 1000000 in
theorem g1Ix_no (v : Value) (xs : List Int) (w : World) (hr : Ints w v xs) (hn : ∀ x ∈ xs, 0 ≤ x ∧ x ≤ 9) :
    Calls Tryz.prog 74 #[v, .func (.func 38) #[] #[]] w fun e w' => e = .returned (I (-1)) ∧ Below w.heap.size w w' := by
  obtain ⟨A, c, rfl, hnc, hcm, hc⟩ := hr.open_
  have HC := Lib.hid hc
  have HN := Lib.hid hn
  clear hc hn hr
  go_enter Tryz.func74, Tryz.ntmps74
  go_wp2_with fail
  go_loopw [8] (fun i wr => ∃ k : Nat, k ≤ xs.length ∧ i = I k ∧ Hid (Below w.heap.size w wr)) (fun i _ => xs.length - (intOf i).toNat)
  case atStart => exact ⟨0, by omega, rfl, Lib.hid (Below.refl _ _)⟩
  case round =>
    obtain ⟨k, hk, rfl, hbw⟩ := hrel
    by_cases hlt : k < xs.length
    · have hki : (k : Int) < (xs.length : Int) := by omega
      obtain ⟨b, o, rfl, hbl, hcell⟩ := HC.out (by omega)
      have x0 := keep_cell hbw.out (hcell k hlt)
      have hx := HN.out _ (List.getElem_mem hlt)
      obtain ⟨x, he⟩ : ∃ x, xs[k] = x := ⟨_, rfl⟩
      rw [he] at x0 hx
      clear he hcell hbl
      have HX := Lib.hid hx
      clear hx
      go_wp2_with fail
      refine (good1_any x _ HX.out).mono ?_
      rintro e w' ⟨rfl, rfl⟩
      clear x0
      go_wp2_with fail
      go_roundw
      case rel => exact ⟨k + 1, by omega, by go_num, hbw⟩
      case measure => first | (simp [intOf]; done) | (simp [intOf]; omega)
    · have hki : (xs.length : Int) ≤ (k : Int) := by omega
      clear hlt
      go_wp2_with fail
      go_ret
      exact ⟨rfl, hbw.out⟩

set_option maxRecDepth 20000 in
set_option maxHeartbeats 800000 in
theorem g1C_no (v : Value) (xs : List Int) (w : World) (hr : Ints w v xs) (hn : ∀ x ∈ xs, 0 ≤ x ∧ x ≤ 9) :
    Calls Tryz.prog 37 #[v, .func (.func 38) #[] #[]] w fun e w' => e = .returned (.bool false) ∧ Below w.heap.size w w' := by
  go_enter Tryz.func37, Tryz.ntmps37
  go_wp2_with fail
  refine (g1Ix_no _ _ _ hr hn).mono ?_
  rintro e w' ⟨rfl, hw⟩
  clear hr hn
  go_wp2_with fail
  go_ret
  exact ⟨rfl, hw⟩

set_option maxRecDepth 20000 in
set_option maxHeartbeats 1000000 in
theorem g2Ix_no (v : Value) (xs : List Int) (w : World) (hr : Ints w v xs) (hn : ∀ x ∈ xs, 0 ≤ x) :
    Calls Tryz.prog 74 #[v, .func (.func 41) #[] #[]] w fun e w' => e = .returned (I (-1)) ∧ Below w.heap.size w w' := by
  obtain ⟨A, c, rfl, hnc, hcm, hc⟩ := hr.open_
  have HC := Lib.hid hc
  have HN := Lib.hid hn
  clear hc hn hr
  go_enter Tryz.func74, Tryz.ntmps74
  go_wp2_with fail
  go_loopw [8] (fun i wr => ∃ k : Nat, k ≤ xs.length ∧ i = I k ∧ Hid (Below w.heap.size w wr)) (fun i _ => xs.length - (intOf i).toNat)
  case atStart => exact ⟨0, by omega, rfl, Lib.hid (Below.refl _ _)⟩
  case round =>
    obtain ⟨k, hk, rfl, hbw⟩ := hrel
    by_cases hlt : k < xs.length
    · have hki : (k : Int) < (xs.length : Int) := by omega
      obtain ⟨b, o, rfl, hbl, hcell⟩ := HC.out (by omega)
      have x0 := keep_cell hbw.out (hcell k hlt)
      have hx := HN.out _ (List.getElem_mem hlt)
      obtain ⟨x, he⟩ : ∃ x, xs[k] = x := ⟨_, rfl⟩
      rw [he] at x0 hx
      clear he hcell hbl
      have HX := Lib.hid hx
      clear hx
      go_wp2_with fail
      refine (good2_any x _ HX.out).mono ?_
      rintro e w' ⟨rfl, rfl⟩
      clear x0
      go_wp2_with fail
      go_roundw
      case rel => exact ⟨k + 1, by omega, by go_num, hbw⟩
      case measure => first | (simp [intOf]; done) | (simp [intOf]; omega)
    · have hki : (xs.length : Int) ≤ (k : Int) := by omega
      clear hlt
      go_wp2_with fail
      go_ret
      exact ⟨rfl, hbw.out⟩

set_option maxRecDepth 20000 in
set_option maxHeartbeats 800000 in
theorem g2C_no (v : Value) (xs : List Int) (w : World) (hr : Ints w v xs) (hn : ∀ x ∈ xs, 0 ≤ x) :
    Calls Tryz.prog 37 #[v, .func (.func 41) #[] #[]] w fun e w' => e = .returned (.bool false) ∧ Below w.heap.size w w' := by
  go_enter Tryz.func37, Tryz.ntmps37
  go_wp2_with fail
  refine (g2Ix_no _ _ _ hr hn).mono ?_
  rintro e w' ⟨rfl, hw⟩
  clear hr hn
  go_wp2_with fail
  go_ret
  exact ⟨rfl, hw⟩

theorem left_lack {t : BTown} {d : Nat → Int} (hd : Bk.Div t.bt d) : ∀ x ∈ (leftTo t d t.ys.length).1, 0 ≤ x := fun x hx => by
  obtain ⟨k, hk, rfl⟩ := List.getElem_of_mem hx
  have hk' : k < t.hs.length := by rw [← (leftTo_spec t d t.ys.length).1]; exact hk
  have h1 := lack_left (d := d) hk'
  rw [List.getElem?_eq_getElem hk] at h1
  injection h1 with h1
  rw [h1]
  exact hd.lack k hk'
theorem left_has {t : BTown} {d : Nat → Int} (hd : Bk.Div t.bt d) : ∀ x ∈ (leftTo t d t.ys.length).2, 0 ≤ x := fun x hx => by
  obtain ⟨k, hk, rfl⟩ := List.getElem_of_mem hx
  have hk' : k < t.ws.length := by rw [← (leftTo_spec t d t.ys.length).2.1]; exact hk
  have h1 := has_left (d := d) hk'
  rw [List.getElem?_eq_getElem hk] at h1
  injection h1 with h1
  rw [h1]
  exact hd.has k hk'

set_option maxRecDepth 100000 in
set_option maxHeartbeats 8000000 in
theorem good_any (v dv : Value) (t : BTown) (d : Nat → Int) (w : World) (hv : BAt w v t) (hval : bVal t = true) (h12 : t.ys.length ≤ 12) (hd : Bk.Div t.bt d) (hdv : Ints w dv (Bk.rowF t.ys.length d)) :
    Calls Tryz.prog 15 #[v, dv] w fun e w' => ∃ v', e = .returned (.tuple #[v', .bool true, I 0]) ∧ w'.ownsRow w.heap.size 3 1 v' t.hs.length ((descL (Bk.lacksL t.bt d)).map I) ∧ Below w.heap.size w w' := by
  have HB0 := Lib.hid hv
  have HDV := Lib.hid hdv
  obtain ⟨hv0, wv, yv, rfl, hh, hw, hy⟩ := hv
  obtain ⟨A1, c1, rfl, -, -, -⟩ := id hh.open_
  obtain ⟨A2, c2, rfl, -, -, -⟩ := id hw.open_
  obtain ⟨A3, c3, rfl, -, -, -⟩ := id hy.open_
  obtain ⟨A4, c4, e4, -, -, -⟩ := id hdv.open_
  rw [Bk.rowF_len] at e4
  subst e4
  have hh6 := (bVal_spec hval).1
  have hw5 := (bVal_spec hval).2.1
  have HV := Lib.hid hval
  have H12 := Lib.hid h12
  have HD := Lib.hid hd
  have HSM := Lib.hid (BTown.bt_sm hval)
  have HCK := Lib.hid (show bChk t = 0 by unfold bChk bValid; rw [hval]; simp [h12])
  have S := Lib.hid ((St.init w).alloc [.slice A1 t.hs.length c1, .slice A2 t.ws.length c2, .slice A3 t.ys.length c3] 32)
  clear hh hw hy hval h12 hd hdv
  go_enter Tryz.func15, Tryz.ntmps15
  have q0 := S.out.get 0 0 rfl rfl
  have q1 := S.out.get 0 1 rfl rfl
  have q2 := S.out.get 0 2 rfl rfl
  go_wp2_with fail
  refine (kCheck_any _ t _ (HB0.out.below S.out.bel)).mono ?_
  rintro e w1 ⟨rfl, hb⟩
  rw [HCK.out]
  replace S := Lib.hid (S.out.call hb)
  clear hb q0 q1 q2
  have q2 := S.out.get 0 2 rfl rfl
  go_wp2_with fail
  refine (g1C_no _ _ _ (HDV.out.below S.out.bel) (fun x hx => by
    obtain ⟨k, hk, rfl⟩ := List.getElem_of_mem hx
    rw [Bk.rowF_len] at hk
    have := Bk.div_small HSM.out HD.out (show k < t.bt.m from hk)
    simpa [Bk.rowF] using this)).mono ?_
  rintro e w2 ⟨rfl, hb⟩
  replace S := Lib.hid (S.out.call hb)
  clear hb q2
  have q0 := S.out.get 0 0 rfl rfl
  have q1 := S.out.get 0 1 rfl rfl
  have q2 := S.out.get 0 2 rfl rfl
  go_wp2_with fail
  refine (left_any _ _ t d _ (HB0.out.below S.out.bel) HV.out H12.out (fun i hi => Bk.div_small HSM.out HD.out hi) (HDV.out.below S.out.bel)).mono ?_
  rintro e w3 ⟨v1, v2, rfl, SL⟩
  replace S := Lib.hid (S.out.join SL)
  obtain ⟨B1, k1, rfl⟩ := own_shape (SL.own 0 rfl)
  obtain ⟨B2, k2, rfl⟩ := own_shape (SL.own 1 rfl)
  clear SL q0 q1 q2
  have hl : (leftTo t d t.ys.length).1.length = t.hs.length := (leftTo_spec t d _).1
  go_wp2_with fail
  refine (g2C_no _ _ _ (S.out.ints 0 rfl) (left_lack HD.out)).mono ?_
  rintro e w4 ⟨rfl, hb⟩
  replace S := Lib.hid (S.out.call hb)
  clear hb
  go_wp2_with fail
  refine (g2C_no _ _ _ (S.out.ints 1 rfl) (left_has HD.out)).mono ?_
  rintro e w5 ⟨rfl, hb⟩
  replace S := Lib.hid (S.out.call hb)
  clear hb
  go_wp2_with fail
  replace S := Lib.hid (S.out.cut 1)
  replace S := Lib.hid (show St w w5 w5.heap.size [.own 3 1 (.slice B1 t.hs.length k1) (leftTo t d t.ys.length).1.length ((leftTo t d t.ys.length).1.map I)] by rw [hl]; exact S.out)
  refine (sorted_any S.out 0 rfl (by omega)).mono ?_
  rintro e w6 ⟨rfl, S2⟩
  replace S2 := Lib.hid S2
  rw [hl, lacksL_left] at S2
  go_wp2_with fail
  refine bodyPost_ret (v := .tuple #[.slice B1 t.hs.length k1, .bool true, I 0]) (by simp [results, go_sem]) rfl ⟨_, rfl, S2.out.own 0 rfl, S2.out.bel⟩
end Go.Proofs.YtldcehhhndlhdaaGreatDoor
