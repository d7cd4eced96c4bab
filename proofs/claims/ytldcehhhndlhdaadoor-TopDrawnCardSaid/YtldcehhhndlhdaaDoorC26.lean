/- Walks: fair. -/
import Derived.Test.YtldcehhhndlhdaaDoorC25
import Derived.Test.YtldcehhhndlhdaaDoorC3
import Derived.Test.YtldcehhhndlhdaaDoorC22
import Derived.Shelf.SlSortCmp.NoneTotal
import Derived.Ground.SlsfProg
import Derived.Lib.RowBridge
import Derived.Lib.SortBridge
import Derived.WalkKit
import Derived.Test.YtldcehhhndlhdaaDoorC19
namespace Go.Proofs.YtldcehhhndlhdaaDoor
open Go.RowKit Go.Sort Go.Shelf

/-- The numbers that lie in a block. -/
def readI (w : World) (g : Nat) (i : Nat) : Int := match w.cell? ⟨g, i, none⟩ with
  | some (.int _ x) => x
  | _ => 0
def lackSum (t : BTown) (w : World) (g : Nat) : Nat := (Bk.sumR t.bt.nH (Bk.lackH t.bt (readI w g))).toNat
theorem lack_congr {t : BTown} {d e : Nat → Int} (h : ∀ i, i < t.ys.length → d i = e i) : Bk.sumR t.bt.nH (Bk.lackH t.bt d) = Bk.sumR t.bt.nH (Bk.lackH t.bt e) :=
  Bk.sumR_congr fun x _ => by
    unfold Bk.lackH Bk.drawH
    rw [Bk.sumR_congr (g := fun i => if t.bt.hh i = x then e i else 0) (fun i hi => by rw [h i hi])]
theorem lackSum_of {t : BTown} {w0 w : World} {n : Nat} {L : List Item} (S : St w0 w n L) (i : Nat) {e g cap : Nat} {d : Nat → Int} (hi : L[i]? = some (.own e 1 (.slice (some ⟨g, 0, none⟩) t.ys.length cap) t.ys.length ((Bk.rowF t.ys.length d).map I))) : lackSum t w g = (Bk.sumR t.bt.nH (Bk.lackH t.bt d)).toNat := by
  unfold lackSum
  rw [lack_congr (t := t) (d := readI w g) (e := d) (fun j hj => ?_)]
  unfold readI
  rw [own_cell (S.own i hi) j _ (Bk.rowF_at d hj)]

set_option maxRecDepth 100000 in
set_option maxHeartbeats 8000000 in
theorem fair_any (v : Value) (t : BTown) (w : World) (hv : BAt w v t) (hval : bVal t = true) (h12 : t.ys.length ≤ 12) :
    Calls Tryd.prog 77 #[v, .agg #[I (-1), I (-1), I 0]] w fun e w' => ∃ v' d, e = .returned v' ∧ w'.ownsRow w.heap.size 3 1 v' t.ys.length ((Bk.rowF t.ys.length d).map I) ∧ Bk.Best t.bt d ∧ Below w.heap.size w w' := by
  obtain ⟨hv0, wv, yv, rfl, hh, hw, hy⟩ := hv
  obtain ⟨A1, c1, rfl, -, -, -⟩ := id hh.open_
  obtain ⟨A2, c2, rfl, -, -, -⟩ := id hw.open_
  obtain ⟨A3, c3, rfl, -, -, -⟩ := id hy.open_
  have HH := Lib.hid hh
  have HW := Lib.hid hw
  have HY := Lib.hid hy
  have HV := Lib.hid hval
  have HSM := Lib.hid (BTown.bt_sm hval)
  have S := Lib.hid (((St.init w).alloc [.slice A1 t.hs.length c1, .slice A2 t.ws.length c2, .slice A3 t.ys.length c3] 62).alloc [I (-1), I (-1), I 0] 128)
  clear hh hw hy hval
  go_enter Tryd.func77, Tryd.ntmps77
  go_wp2_with fail
  refine wp_region_seg [([0, 1, 2, 3, 4], 5), ([6], 7)] [8] [] 9 (by kernel_rfl) (by kernel_rfl) ?_
  intro KQ hKQ w1 hb
  have S := Lib.hid (S.out.call hb)
  clear hb
  have k0 := cell_regrown (S.out.get 1 0 rfl rfl)
  have k1 := cell_regrown (S.out.get 1 1 rfl rfl)
  have k2 := cell_regrown (S.out.get 1 2 rfl rfl)
  have p0 := cell_regrown (S.out.get 0 0 rfl rfl)
  have p1 := cell_regrown (S.out.get 0 1 rfl rfl)
  have p2 := cell_regrown (S.out.get 0 2 rfl rfl)
  refine seg_next ?_
  simp only [opsAt, List.filterMap_cons, List.filterMap_nil, List.getElem?_toArray, List.getElem?_cons_succ, List.getElem?_cons_zero]
  show wpQuiet _ _ _ _ [_, _, _, _, _] _
  repeat (first | go_big_quiet_step (fail) | quiet_step (fail))
  refine wpQuiet_nil ?_
  intro K hK
  refine loud_op rfl rfl ?_
  obtain ⟨i0, hi, hz0, hz1, hz2⟩ := info_parts (P := Tryd.prog) (e := 3) (z := .int .i64 0) (size := 1) (bytes := 8) (by kernel_rfl)
  refine wp_make (.tmp 14) (.tmp 14) 53 rfl w.heap.size 3 i0 (.int .i64 0) 1 Tryd.underlying53 hi hz0 hz1 .i64 .i64 _ _ t.ys.length rfl rfl rfl rfl (by rw [hz2]; omega) (by simp only [maxLen]; omega) S.out.bel.size ?_
  intro w2 hown hgr
  have hb : Below w1.heap.size w1 w2 := ⟨hgr.os, hgr.tape, hgr.output, hgr.size, fun k hk => hgr.block k hk (by simp)⟩
  have S := Lib.hid (S.out.made' hgr hown)
  rw [madeI'] at S
  refine hK _ _ hb ?_
  clear hK K hown hgr hb hz2 k0 k1 k2 p0 p1 p2 hi hz0 hz1
  obtain ⟨g, hg⟩ : ∃ g, w1.heap.size = g := ⟨_, rfl⟩
  rw [hg] at S ⊢
  clear hg
  refine seg_next ?_
  simp only [opsAt, List.filterMap_cons, List.filterMap_nil, List.getElem?_toArray, List.getElem?_cons_succ, List.getElem?_cons_zero]
  show wpQuiet _ _ _ _ [_] _
  repeat (first | go_big_quiet_step (fail) | quiet_step (fail))
  refine wpQuiet_nil ?_
  intro K hK
  refine loud_op rfl rfl ?_
  go_simp
  refine hK _ _ ((Below.refl _ _).alloc (Nat.le_refl _) _) ?_
  clear hK K
  have S2 := S.out.alloc (townC A1 A2 A3 (some ⟨g, 0, none⟩) c1 c2 c3 t.ys.length t) 147
  obtain ⟨w3, hw3⟩ : ∃ x, w2.alloc (.cells (townC A1 A2 A3 (some ⟨g, 0, none⟩) c1 c2 c3 t.ys.length t).toArray 147) = x := ⟨_, rfl⟩
  have S := Lib.hid (show St w w3 (w2.heap.size + 1) _ from by rw [← hw3]; exact S2)
  clear S2
  simp only [show (w2.alloc (.cells #[.slice A1 t.hs.length c1, .slice A2 t.ws.length c2, .slice A3 t.ys.length c3, I (-1), I (-1), I 0, .slice (some ⟨g, 0, none⟩) t.ys.length t.ys.length] 147)) = w3 from hw3]
  clear hw3
  obtain ⟨B, hB⟩ : ∃ B, w2.heap.size = B := ⟨_, rfl⟩
  simp only [hB] at S ⊢
  clear hB
  refine seg_last ?_
  simp only [opsAt, List.filterMap_cons, List.filterMap_nil, List.getElem?_toArray, List.getElem?_cons_succ, List.getElem?_cons_zero]
  show wpQuiet _ _ _ _ [_] _
  repeat (first | go_big_quiet_step (fail) | quiet_step (fail))
  refine wpQuiet_nil ?_
  go_simp
  refine hKQ _ _ ?_
  clear hKQ KQ
  have S := Lib.hid (show St w w3 w3.heap.size [.box B (townC A1 A2 A3 (some ⟨g, 0, none⟩) c1 c2 c3 t.ys.length t), .own 3 1 (.slice (some ⟨g, 0, none⟩) t.ys.length t.ys.length) t.ys.length ((Bk.rowF t.ys.length (fun _ => 0)).map I)] from by
    have h := S.out.fix.less (M := [.box B (townC A1 A2 A3 (some ⟨g, 0, none⟩) c1 c2 c3 t.ys.length t), .own 3 1 (.slice (some ⟨g, 0, none⟩) t.ys.length t.ys.length) t.ys.length ((List.replicate t.ys.length (0 : Int)).map I)]) (List.Sublist.cons_cons _ (List.Sublist.cons_cons _ (List.nil_sublist _)))
    rw [show Bk.rowF t.ys.length (fun _ => (0 : Int)) = List.replicate t.ys.length 0 by unfold Bk.rowF; rw [List.map_const', List.length_range]]
    exact h)
  have HF0 := Lib.hid (Bk.fit_zero HSM.out)
  go_wp2_with fail
  go_loopw [6] (fun _ wr => Hid (∃ d : Nat → Int, Bk.Fit t.bt d ∧ St w wr wr.heap.size [.box B (townC A1 A2 A3 (some ⟨g, 0, none⟩) c1 c2 c3 t.ys.length t), .own 3 1 (.slice (some ⟨g, 0, none⟩) t.ys.length t.ys.length) t.ys.length ((Bk.rowF t.ys.length d).map I)])) (fun _ wr => lackSum t wr g)
  case atStart => exact Lib.hid ⟨_, HF0.out, S.out⟩
  case round =>
    clear S HF0
    obtain ⟨d, hf, S'⟩ := hrel.out
    have S := Lib.hid S'
    have HF := Lib.hid hf
    have HM0 := Lib.hid (lackSum_of S' 1 rfl)
    clear hrel S' hf
    have HT := Lib.hid (show TownAt wr B t d from ⟨A1, A2, A3, (some ⟨g, 0, none⟩), c1, c2, c3, t.ys.length, fun i v hv => S.out.get 0 i rfl hv, HH.out.below S.out.bel, HW.out.below S.out.bel, HY.out.below S.out.bel, by have h := S.out.row 1 rfl; unfold Ints; rw [Bk.rowF_len]; exact h⟩)
    go_wp2_with fail
    refine (cheapest_any B t d wr HV.out h12 HF.out HT.out).mono ?_
    rintro e w5 ⟨pv, p, rfl, hown, hch, hb⟩
    have S := Lib.hid (S.out.take hb hown)
    obtain ⟨Ap, cp, rfl⟩ := own_shape hown
    have HCH := Lib.hid hch
    clear hb hown hch HT
    obtain ⟨c, hc⟩ : ∃ c, (Bk.endB t.bt d).c (Bk.sinkB t.bt) = c := ⟨_, rfl⟩
    rw [hc] at HCH ⊢
    have HC := Lib.hid hc
    clear hc
    have x6 := S.out.get 1 6 rfl rfl
    by_cases hge : 0 ≤ c
    · have HB := Lib.hid (show Bk.Best t.bt d from ⟨HF.out.div, fun e he => Bk.fit_best HSM.out HF.out (by rw [HC.out]; exact hge) he⟩)
      go_wp2_with fail
      go_ret
      exact ⟨_, d, rfl, S.out.own 2 rfl, HB.out, S.out.bel⟩
    · have hlt : c < 0 := by omega
      clear hge
      obtain ⟨p', hp', hlen, hpA, hfit, hsum⟩ := Bk.fit_next HSM.out HF.out (by rw [HC.out]; exact hlt)
      have hpe : p = p' := (HCH.out (by unfold Bk.farI; omega)).det hp'
      subst hpe
      have HPA := Lib.hid hpA
      have HFN := Lib.hid hfit
      have HSU := Lib.hid hsum
      have hp13 : p.length ≤ 13 := by
        have h1 := HSM.out.nW
        have h2 := HSM.out.nH
        unfold Bk.nodesB at hlen
        omega
      clear hp' hlen hpA hfit hsum HCH
      have S := Lib.hid (show St w w5 w5.heap.size [.own 152 5 (.slice Ap p.length cp) p.length (arcRow p), .box B (townC A1 A2 A3 (some ⟨g, 0, none⟩) c1 c2 c3 t.ys.length t), .own 3 1 (.slice (some ⟨g, 0, none⟩) t.ys.length t.ys.length) t.ys.length ((Bk.rowF t.ys.length (Bk.augB d (p.take 0))).map I)] from by rw [List.take_zero, Bk.aug_nil]; exact S.out)
      go_wp2_with fail
      clear x6
      go_loopw [31] (fun i wq => ∃ j : Nat, j ≤ p.length ∧ i = I j ∧ Hid (St w wq wq.heap.size [.own 152 5 (.slice Ap p.length cp) p.length (arcRow p), .box B (townC A1 A2 A3 (some ⟨g, 0, none⟩) c1 c2 c3 t.ys.length t), .own 3 1 (.slice (some ⟨g, 0, none⟩) t.ys.length t.ys.length) t.ys.length ((Bk.rowF t.ys.length (Bk.augB d (p.take j))).map I)])) (fun i _ => p.length - (intOf i).toNat)
      case atStart => exact ⟨0, by omega, rfl, S⟩
      case round =>
        clear S
        obtain ⟨j, hj, rfl, S⟩ := hrel
        by_cases hjl : j < p.length
        · have hji : (j : Int) < (p.length : Int) := by omega
          obtain ⟨gp, hgp⟩ := own_some (S.out.own 0 rfl) (by omega)
          subst hgp
          obtain ⟨y0, y1, y2, y3, y4⟩ := S.out.arc 0 rfl (k := j) hjl
          have HTK := Lib.hid (List.take_succ_eq_append_getElem hjl)
          obtain ⟨hmo, hwy⟩ := Bk.arcs_way _ (HPA.out _ (List.getElem_mem hjl))
          obtain ⟨a, ha⟩ : ∃ a, p[j] = a := ⟨_, rfl⟩
          rw [ha] at y0 y1 y2 y3 y4 HTK hmo hwy
          clear ha
          rcases hwy with hwy | ⟨i, him, hwy⟩
          · have HAU := Lib.hid (show Bk.augB d (p.take (j + 1)) = Bk.augB d (p.take j) by rw [HTK.out]; exact Bk.aug_skip d _ (by omega))
            have T := Lib.hid (S.out.alloc (arcCells a) 152)
            have z3 := T.out.get 0 3 rfl rfl
            have hneg : a.way < 0 := by omega
            clear hwy
            go_wp2_with fail
            go_roundw
            case rel => exact ⟨j + 1, by omega, by go_num, Lib.hid (by rw [HAU.out]; exact T.out.tail.fix)⟩
            case measure => first | (simp [intOf]; done) | (simp [intOf]; omega)
          · have HAU := Lib.hid (show Bk.augB d (p.take (j + 1)) = Bk.updF (Bk.augB d (p.take j)) i (Bk.augB d (p.take j) i + a.more) by rw [HTK.out]; exact Bk.aug_step d _ hwy)
            have hbd : -30 ≤ Bk.augB d (p.take j) i ∧ Bk.augB d (p.take j) i ≤ 30 := by
              have h1 := Bk.div_small HSM.out HF.out.div him
              have h2 := Bk.gain_bd (p.take j) i (fun a ha => (Bk.arcs_way a (HPA.out a (List.mem_of_mem_take ha))).1)
              rw [List.length_take] at h2
              unfold Bk.augB
              omega
            have him' : i < t.ys.length := him
            have T := Lib.hid (S.out.alloc (arcCells a) 152)
            have z3 := T.out.get 0 3 rfl rfl
            have hnn : 0 ≤ a.way := by omega
            have HWY := Lib.hid hwy
            clear hwy
            go_wp2_with fail
            clear z3 y0 y1 y2 y3 y4
            refine wp_region_seg [] [0, 1, 2, 3, 4, 5, 6, 7, 8, 9, 10, 11] [12] 12 (by kernel_rfl) (by kernel_rfl) ?_
            intro KQ hKQ wz hbz
            have T := Lib.hid (T.out.call hbz)
            clear hbz
            have z3 := cell_regrown (T.out.get 0 3 rfl rfl)
            have z4 := cell_regrown (T.out.get 0 4 rfl rfl)
            have x6 := cell_regrown (T.out.get 2 6 rfl rfl)
            have yi := cell_regrown (own_cell (T.out.own 3 rfl) i _ (Bk.rowF_at _ him'))
            have hii : (i : Int) < (t.ys.length : Int) := by omega
            rw [HWY.out] at z3
            refine seg_last ?_
            simp only [opsAt, List.filterMap_cons, List.filterMap_nil, List.getElem?_toArray, List.getElem?_cons_succ, List.getElem?_cons_zero]
            show wpQuiet _ _ _ _ [_, _, _, _, _, _, _, _, _, _, _, _] _
            repeat (first | go_big_quiet_step (fail) | quiet_step (fail))
            refine wpQuiet_nil ?_
            clear z3 z4 x6 yi
            have yi := own_cell (T.out.own 3 rfl) i _ (Bk.rowF_at _ him')
            have zi := (T.out.own 3 rfl).frozenAt i
            have T2 := T.out.put 3 i (I (Bk.augB d (p.take j) i + a.more)) rfl
            dsimp only [List.set_cons_zero, List.set_cons_succ] at T2
            rw [← List.map_set, Bk.rowF_upd, ← HAU.out] at T2
            have T2 := Lib.hid T2
            go_wp2_with fail
            go_roundw
            case rel => exact ⟨j + 1, by omega, by go_num, Lib.hid T2.out.tail.fix⟩
            case measure => first | (simp [intOf]; done) | (simp [intOf]; omega)
        · obtain rfl : j = p.length := by omega
          have HE := Lib.hid (show Bk.augB d (p.take p.length) = Bk.augB d p by rw [List.take_length])
          have HM1 := Lib.hid (lackSum_of S.out 2 rfl)
          go_wp2_with fail
          go_roundw
          case rel => exact Lib.hid ⟨_, HFN.out, by rw [← HE.out]; exact S.out.tail⟩
          case measure =>
            have h0 : 0 ≤ Bk.sumR t.bt.nH (Bk.lackH t.bt (Bk.augB d p)) := Bk.sumR_nonneg fun h hh => HFN.out.div.lack h hh
            have h1 := HSU.out
            rw [HM1.out, HM0.out, HE.out]
            omega

end Go.Proofs.YtldcehhhndlhdaaDoor
/- The lacks of a fairest division are one list; the town of the example. No program here; no conditions. -/
namespace Go.Proofs.YtldcehhhndlhdaaDoor.Bk
theorem earlier_none : ∀ {k l : List Int}, k.length = l.length → earlierL k l = false → earlierL l k = false → k = l
  | [], [], _, _, _ => rfl
  | [], _ :: _, h, _, _ => by simp at h
  | _ :: _, [], h, _, _ => by simp at h
  | x :: k, y :: l, h, h1, h2 => by
    unfold earlierL at h1 h2
    by_cases e : x = y
    · subst e
      rw [if_pos rfl] at h1 h2
      rw [earlier_none (by simpa using h) h1 h2]
    · rw [if_neg e, decide_eq_false_iff_not] at h1
      rw [if_neg (fun h => e h.symm), decide_eq_false_iff_not] at h2
      exact absurd (show x = y by omega) e
theorem wetter_refl (t : BT) : Wetter t t := ⟨rfl, rfl, rfl, rfl, rfl, rfl, fun _ _ => Int.le_refl _⟩
theorem best_one {t : BT} {d e : Nat → Int} (hd : Best t d) (he : Best t e) (h6 : t.nH ≤ 6) {k l : List Int} (hk : k.Perm (lacksL t d)) (hl : l.Perm (lacksL t e)) (sk : SortD k) (sl : SortD l) : k = l := by
  refine earlier_none (by rw [hk.length_eq, hl.length_eq]; simp [lacksL]) (wetter_fair (wetter_refl t) hd he h6 hk hl sk) (wetter_fair (wetter_refl t) he hd h6 hl hk sl)
/-- The town of the example. -/
def exB : BT := ⟨3, 2, 4, fun h => [5, 4, 3].getD h 0, fun w => [4, 3].getD w 0, fun i => [0, 1, 1, 2].getD i 0, fun i => [0, 0, 1, 1].getD i 0⟩
def exD : Nat → Int := fun i => [3, 1, 1, 2].getD i 0
theorem dearN_line (k : Nat) : 42000 * (k : Int) - 35000 ≤ dearN k := by
  induction k with
  | zero => decide
  | succ k ih =>
    have := dearN_pos k
    have := dearN_succ k
    rcases Nat.eq_zero_or_pos k with rfl | h
    · decide
    · omega
theorem dear_line {n : Int} (h : 0 ≤ n) : 42000 * n - 35000 ≤ dear n := by
  have := dearN_line n.toNat
  unfold dear
  omega
theorem ex_lacks : lacksL exB exD = [2, 2, 1] := by decide
theorem ex_best : Best exB exD := by
  refine ⟨⟨by decide, by decide, by decide⟩, fun e he => ?_⟩
  have l0 := he.lack 0 (by decide)
  have l1 := he.lack 1 (by decide)
  have l2 := he.lack 2 (by decide)
  have w0 := he.has 0 (by decide)
  have w1 := he.has 1 (by decide)
  have e0 : lackH exB e 0 = 5 - e 0 := by simp [lackH, drawH, sumR, exB]
  have e1 : lackH exB e 1 = 4 - (e 1 + e 2) := by simp [lackH, drawH, sumR, exB]
  have e2 : lackH exB e 2 = 3 - e 3 := by simp [lackH, drawH, sumR, exB]
  have f0 : hasW exB e 0 = 4 - (e 0 + e 1) := by simp [hasW, giveW, sumR, exB]
  have f1 : hasW exB e 1 = 3 - (e 2 + e 3) := by simp [hasW, giveW, sumR, exB]
  have d0 := dear_line l0
  have d1 := dear_line l1
  have d2 := dear_line l2
  have hc : costB exB exD = 105000 := by decide
  have hc2 : costB exB e = dear (lackH exB e 0) + dear (lackH exB e 1) + dear (lackH exB e 2) := by
    show sumR 3 (fun h => dear (lackH exB e h)) = _
    simp only [sumR]
    omega
  omega
end Go.Proofs.YtldcehhhndlhdaaDoor.Bk
/- The greatest first: slices.SortFunc by the shelf's contract; sorted. -/
namespace Go.Proofs.YtldcehhhndlhdaaDoor
open Go.RowKit Go.Sort Go.Shelf
def Tryd.sortL_ren : Go.Shelf.Ren := ⟨fun | 6 => 100 | 15 => 112 | 14 => 111 | 28 => 126 | 29 => 127 | 20 => 118 | 21 => 119 | 22 => 120 | 23 => 121 | 24 => 122 | 25 => 123 | 26 => 124 | 27 => 125 | 46 => 128 | 47 => 129 | 48 => 130 | 49 => 131 | 50 => 132 | 57 => 133 | n => n, fun | 22 => 53 | 24 => 3 | 25 => 144 | 3 => 3 | 39 => 95 | 0 => 0 | 53 => 138 | 55 => 140 | 4 => 4 | 46 => 172 | 45 => 171 | 50 => 176 | 5 => 5 | 9 => 9 | 66 => 178 | 70 => 182 | 76 => 184 | 77 => 185 | n => n, fun | n => n⟩
theorem Tryd.sortL : Go.Proofs.SlLaysF.n6 Tryd.prog Tryd.sortL_ren where
  mixed := by kernel_rfl
  f6 := ⟨Tryd.f100.name, by kernel_rfl, Tryd.func100.trans (congrArg some (by kernel_rfl))⟩
  f14 := ⟨Tryd.f111.name, by kernel_rfl, Tryd.func111.trans (congrArg some (by kernel_rfl))⟩
  f15 := Tryd.func112.trans (congrArg some (by kernel_rfl))
  f20 := ⟨Tryd.f118.name, by kernel_rfl, Tryd.func118.trans (congrArg some (by kernel_rfl))⟩
  f21 := ⟨Tryd.f119.name, by kernel_rfl, Tryd.func119.trans (congrArg some (by kernel_rfl))⟩
  f22 := ⟨Tryd.f120.name, by kernel_rfl, Tryd.func120.trans (congrArg some (by kernel_rfl))⟩
  f23 := ⟨Tryd.f121.name, by kernel_rfl, Tryd.func121.trans (congrArg some (by kernel_rfl))⟩
  f24 := ⟨Tryd.f122.name, by kernel_rfl, Tryd.func122.trans (congrArg some (by kernel_rfl))⟩
  f25 := ⟨Tryd.f123.name, by kernel_rfl, Tryd.func123.trans (congrArg some (by kernel_rfl))⟩
  f26 := ⟨Tryd.f124.name, by kernel_rfl, Tryd.func124.trans (congrArg some (by kernel_rfl))⟩
  f27 := ⟨Tryd.f125.name, by kernel_rfl, Tryd.func125.trans (congrArg some (by kernel_rfl))⟩
  f28 := Tryd.func126.trans (congrArg some (by kernel_rfl))
  f29 := Tryd.func127.trans (congrArg some (by kernel_rfl))
  f46 := ⟨Tryd.f128.name, by kernel_rfl, Tryd.func128.trans (congrArg some (by kernel_rfl))⟩
  f47 := Tryd.func129.trans (congrArg some (by kernel_rfl))
  f48 := Tryd.func130.trans (congrArg some (by kernel_rfl))
  f49 := ⟨Tryd.f131.name, by kernel_rfl, Tryd.func131.trans (congrArg some (by kernel_rfl))⟩
  f50 := ⟨Tryd.f132.name, by kernel_rfl, Tryd.func132.trans (congrArg some (by kernel_rfl))⟩
  f57 := ⟨Tryd.f133.name, by kernel_rfl, Tryd.func133.trans (congrArg some (by kernel_rfl))⟩
  t0 := Tryd.underlying0
  a0 := Tryd.isAgg0
  z0 := Tryd.sizeOf0
  v0 := Tryd.zeroValue0
  t3 := Tryd.underlying3
  a3 := Tryd.isAgg3
  z3 := Tryd.sizeOf3
  v3 := Tryd.zeroValue3
  t4 := Tryd.underlying4
  a4 := Tryd.isAgg4
  z4 := Tryd.sizeOf4
  v4 := Tryd.zeroValue4
  t5 := Tryd.underlying5
  a5 := Tryd.isAgg5
  z5 := Tryd.sizeOf5
  v5 := Tryd.zeroValue5
  t9 := Tryd.underlying9
  a9 := Tryd.isAgg9
  z9 := Tryd.sizeOf9
  v9 := Tryd.zeroValue9
  t22 := Tryd.underlying53
  a22 := Tryd.isAgg53
  z22 := Tryd.sizeOf53
  v22 := Tryd.zeroValue53
  a24 := Tryd.isAgg3
  z24 := Tryd.sizeOf3
  t25 := Tryd.underlying144
  a25 := Tryd.isAgg144
  z25 := Tryd.sizeOf144
  v25 := Tryd.zeroValue144
  t39 := Tryd.underlying95
  a39 := Tryd.isAgg95
  z39 := Tryd.sizeOf95
  v39 := Tryd.zeroValue95
  t45 := Tryd.underlying171
  a45 := Tryd.isAgg171
  z45 := Tryd.sizeOf171
  v45 := Tryd.zeroValue171
  t46 := Tryd.underlying172
  a46 := Tryd.isAgg172
  z46 := Tryd.sizeOf172
  v46 := Tryd.zeroValue172
  t50 := Tryd.underlying176
  a50 := Tryd.isAgg176
  z50 := Tryd.sizeOf176
  v50 := Tryd.zeroValue176
  t53 := Tryd.underlying138
  a53 := Tryd.isAgg138
  z53 := Tryd.sizeOf138
  v53 := Tryd.zeroValue138
  t55 := Tryd.underlying140
  a55 := Tryd.isAgg140
  z55 := Tryd.sizeOf140
  v55 := Tryd.zeroValue140
  t66 := Tryd.underlying178
  a66 := Tryd.isAgg178
  z66 := Tryd.sizeOf178
  v66 := Tryd.zeroValue178
  t70 := Tryd.underlying182
  a70 := Tryd.isAgg182
  z70 := Tryd.sizeOf182
  v70 := Tryd.zeroValue182
  t76 := Tryd.underlying184
  a76 := Tryd.isAgg184
  z76 := Tryd.sizeOf184
  v76 := Tryd.zeroValue184
  t77 := Tryd.underlying185
  a77 := Tryd.isAgg185
  z77 := Tryd.sizeOf185
  v77 := Tryd.zeroValue185

/-- The greatest first. -/
def descL (l : List Int) : List Int := l.mergeSort fun x y => decide (y ≤ x)
theorem descL_perm (l : List Int) : (descL l).Perm l := List.mergeSort_perm _ _
theorem descL_len (l : List Int) : (descL l).length = l.length := (descL_perm l).length_eq
theorem descL_sorted (l : List Int) : Bk.SortD (descL l) := by
  have := List.pairwise_mergeSort (le := fun x y : Int => decide (y ≤ x)) (fun a b c h1 h2 => by simp at *; omega) (fun a b => by simp; omega) l
  exact this.imp (by intro a b h; simpa using h)
def cfB (x y : Int) : Int := cmpI y x
theorem ltB (x y : Int) : ltOf cfB x y = decide (y < x) := by
  unfold ltOf cfB cmpI
  by_cases h1 : y < x
  · simp [h1]
  · by_cases h2 : x < y <;> simp [h1, h2]
theorem swoB : SWO (ltOf cfB) where
  irrefl x := by rw [ltB]; simp
  trans x y z h1 h2 := by rw [ltB] at *; simp at *; omega
  ntrans x y z h1 h2 := by rw [ltB] at *; simp at *; omega
theorem totB' (x y : Int) (h1 : ltOf cfB x y = false) (h2 : ltOf cfB y x = false) : x = y := by rw [ltB] at *; simp at *; omega
theorem geB : (fun x y : Int => !ltOf cfB y x) = fun x y => decide (y ≤ x) := by
  funext x y
  rw [ltB]
  by_cases h : y ≤ x
  · have h' : ¬ x < y := by omega
    simp [h, h']
  · have h' : x < y := by omega
    simp [h, h']
theorem cmpReadsB (blk off size : Nat) (w : World) : CmpReads Tryd.prog 101 #[] (Value.int .i64) cfB blk off size w := fun _ _ _ _ x y => (sorted1_any x y _).mono fun _ _ ⟨he, hw⟩ => ⟨he, 0, hw.symm⟩

set_option maxHeartbeats 1000000 in
/-- A row of the call's own is sorted. -/
theorem sortRow_any {w0 w : World} {n : Nat} {L : List Item} (S : St w0 w n L) (i : Nat) {e : TypeId} {v : Value} {xs : List Int} (hi : L[i]? = some (.own e 1 v xs.length (xs.map I))) (h63 : xs.length ≤ 1000) :
    Calls Tryd.prog 100 #[v, .func (.func 101) #[] #[]] w fun e' w' => e' = .returned (.tuple #[]) ∧ St w0 w' w'.heap.size (L.set i (.own e 1 v xs.length ((descL xs).map I))) := by
  have ho := S.own i hi
  rcases ho.2 with ⟨rfl, h0⟩ | ⟨g, cap, cur, rfl, hb, hh, h1⟩
  · have hn : xs = [] := List.eq_nil_of_length_eq_zero h0
    subst hn
    refine (AnyF.slices_SortFunc_none (P := Tryd.prog) (ρ := Tryd.sortL_ren) { Tryd.sortL with } none 0 (.func (.func 101) #[] #[]) w).mono ?_
    rintro e' w' ⟨rfl, rfl⟩
    refine ⟨rfl, ?_⟩
    have e2 : L.set i (.own e 1 (.slice none 0 0) 0 []) = L := by
      apply List.ext_getElem?
      intro j
      rw [List.getElem?_set]
      split
      · rename_i hj
        subst hj
        rw [hi, if_pos (List.getElem?_eq_some_iff.1 hi).1]
        rfl
      · rfl
    have e3 : (descL []).map I = [] := by simp [descL]
    rw [e3]
    show St w0 w' w'.heap.size (L.set i (.own e 1 (.slice none 0 0) 0 []))
    rw [e2]
    exact S.fix
  · have hl : xs.toArray.size = xs.length := by simp
    have hH : Holds (Value.int .i64) w g 0 xs.toArray := by
      have := Lib.holds_of_ints (w := w) (b := g) (off := 0) (n := xs.length) (zs := xs) (Nat.le_refl _) (fun j hj => by
        have hx : xs[j]? = some xs[j] := List.getElem?_eq_getElem hj
        rw [Nat.zero_add, own_cell ho j _ hx]
        simp [List.getD, hx]) (fun j hj => by rw [Nat.zero_add]; exact ho.frozenAt j)
      rwa [List.take_of_length_le (Nat.le_refl _)] at this
    have hlt : g < w.heap.size := lt_of_block hh
    have eg : ∀ args w, (callFunc 101 args).run Tryd.prog w = .ok (.enter 101 args) w := enters_of Tryd.func101 (by kernel_rfl) rfl
    have hS := Any.slices_SortFunc_total Tryd.sortL (Value.int .i64) (fun _ => rfl) cfB swoB 101 #[] g 0 cap xs.toArray w eg (cmpReadsB g 0 xs.toArray.size w).lays hH hlt (by rw [hl]; omega) totB'
    rw [geB, hl] at hS
    refine hS.mono ?_
    rintro e' w' ⟨rfl, q, os, rfl⟩
    refine ⟨rfl, ?_⟩
    have hw := Lib.sorted_world (Value.int .i64) w g 0 q xs.toArray (descL xs) os hH (by simp [descL_len])
    have hr : sortWorld (Value.int .i64) w g 0 q (descL xs).toArray os = grow ((w.drewN q).setCells g 0 ((descL xs).map I)) os := hw
    have S1 : St w0 (w.drewN q) n L := by
      have hz : (w.drewN q).heap.size = n := by rw [← S.size]; simp
      have := S.call (below_drewN (Below.refl w.heap.size w) q)
      rwa [hz] at this
    have S2 := St.puts ((descL xs).map I) 0 S1 hi
    have e4 : setsAt (xs.map I) 0 ((descL xs).map I) = (descL xs).map I := by
      have := setsAt_mid ((descL xs).map I) (xs.map I) [] [] (by simp [descL_len])
      simpa using this
    rw [e4] at S2
    have S3 : St w0 (grow ((w.drewN q).setCells g 0 ((descL xs).map I)) os) (grow ((w.drewN q).setCells g 0 ((descL xs).map I)) os).heap.size _ := S2.call (below_regrown _ ((w.drewN q).setCells g 0 ((descL xs).map I)).drawn os)
    rw [← hr] at S3
    exact S3

/-- sorted: the row itself, the greatest first. -/
theorem sorted_any {w0 w : World} {n : Nat} {L : List Item} (S : St w0 w n L) (i : Nat) {e : TypeId} {v : Value} {xs : List Int} (hi : L[i]? = some (.own e 1 v xs.length (xs.map I))) (h63 : xs.length ≤ 1000) :
    Calls Tryd.prog 78 #[v] w fun e' w' => e' = .returned v ∧ St w0 w' w'.heap.size (L.set i (.own e 1 v xs.length ((descL xs).map I))) := by
  have h := sortRow_any S i hi h63
  go_enter Tryd.func78, Tryd.ntmps78
  go_wp2_with fail
  refine h.mono ?_
  rintro e' w' ⟨rfl, h⟩
  go_wp2_with fail
  go_ret
  exact ⟨rfl, h⟩
end Go.Proofs.YtldcehhhndlhdaaDoor
/- Walks: lacks, Lacks. -/
namespace Go.Proofs.YtldcehhhndlhdaaDoor
open Go.RowKit Go.Sort Go.Shelf

/-- The wish for nothing lies where it lay at the start. -/
def NnAt (w : World) : Prop := w.cell? ⟨0, 0, none⟩ = some (I (-1)) ∧ w.cell? ⟨0, 1, none⟩ = some (I (-1)) ∧ w.cell? ⟨0, 2, none⟩ = some (I 0)
theorem NnAt.below {w w' : World} (h : NnAt w) (hb : Below w.heap.size w w') : NnAt w' := ⟨keep_cell hb h.1, keep_cell hb h.2.1, keep_cell hb h.2.2⟩
theorem lacksL_left (t : BTown) (d : Nat → Int) : (leftTo t d t.ys.length).1 = Bk.lacksL t.bt d := by
  apply List.ext_getElem?
  intro i
  by_cases h : i < t.hs.length
  · rw [lack_left h]
    unfold Bk.lacksL
    rw [List.getElem?_map, List.getElem?_range (show i < t.bt.nH from h)]
    rfl
  · rw [List.getElem?_eq_none (by rw [(leftTo_spec t d _).1]; omega), List.getElem?_eq_none (by unfold Bk.lacksL; simp; show t.hs.length ≤ i; omega)]

set_option maxRecDepth 100000 in
set_option maxHeartbeats 4000000 in
theorem lacks_any (v : Value) (t : BTown) (w : World) (hv : BAt w v t) (hn : NnAt w) (hval : bVal t = true) (h12 : t.ys.length ≤ 12) :
    Calls Tryd.prog 55 #[v] w fun e w' => ∃ v' d, e = .returned v' ∧ w'.ownsRow w.heap.size 3 1 v' t.hs.length ((descL (Bk.lacksL t.bt d)).map I) ∧ Bk.Best t.bt d ∧ Below w.heap.size w w' := by
  obtain ⟨hv0, wv, yv, rfl, hh, hw, hy⟩ := hv
  obtain ⟨A1, c1, rfl, -, -, -⟩ := id hh.open_
  obtain ⟨A2, c2, rfl, -, -, -⟩ := id hw.open_
  obtain ⟨A3, c3, rfl, -, -, -⟩ := id hy.open_
  have HH := Lib.hid hh
  have HW := Lib.hid hw
  have HY := Lib.hid hy
  have HV := Lib.hid hval
  have HNN := Lib.hid hn
  have HSM := Lib.hid (BTown.bt_sm hval)
  have hh6 := (bVal_spec hval).1
  have S := Lib.hid ((St.init w).alloc [.slice A1 t.hs.length c1, .slice A2 t.ws.length c2, .slice A3 t.ys.length c3] 62)
  clear hh hw hy hval hn
  go_enter Tryd.func55, Tryd.ntmps55
  go_wp2_with fail
  refine wp_region_seg [([0, 1, 2], 3), ([], 4)] [5, 6, 7, 8, 9] [] 10 (by kernel_rfl) (by kernel_rfl) ?_
  intro KQ hKQ w1 hb
  have S := Lib.hid (S.out.call hb)
  clear hb
  have k0 := cell_regrown (S.out.get 0 0 rfl rfl)
  have k1 := cell_regrown (S.out.get 0 1 rfl rfl)
  have k2 := cell_regrown (S.out.get 0 2 rfl rfl)
  have n0 := cell_regrown (HNN.out.below S.out.bel).1
  have n1 := cell_regrown (HNN.out.below S.out.bel).2.1
  have n2 := cell_regrown (HNN.out.below S.out.bel).2.2
  refine seg_next ?_
  simp only [opsAt, List.filterMap_cons, List.filterMap_nil, List.getElem?_toArray, List.getElem?_cons_succ, List.getElem?_cons_zero]
  show wpQuiet _ _ _ _ [_, _, _] _
  repeat (first | go_big_quiet_step (fail) | quiet_step (fail))
  refine wpQuiet_nil ?_
  intro K hK
  refine loud_op rfl rfl ?_
  go_simp
  refine (fair_any _ t _ ⟨_, _, _, rfl, HH.out.below S.out.bel, HW.out.below S.out.bel, HY.out.below S.out.bel⟩ HV.out h12).mono ?_
  rintro e w2 ⟨dv, d, rfl, hown, hbest, hb⟩
  have S := Lib.hid (S.out.take hb hown)
  obtain ⟨A4, c4, rfl⟩ := own_shape hown
  have HBE := Lib.hid hbest
  refine hK _ _ hb ?_
  clear hK K hb hown hbest k0 k1 k2 n0 n1 n2
  refine seg_next ?_
  simp only [opsAt, List.filterMap_nil]
  refine wpQuiet_nil ?_
  intro K hK
  refine loud_op rfl rfl ?_
  go_simp
  refine (left_any _ _ t d _ ⟨_, _, _, rfl, HH.out.below S.out.bel, HW.out.below S.out.bel, HY.out.below S.out.bel⟩ HV.out h12 (fun i hi => Bk.div_small HSM.out HBE.out.div hi) (by have h := S.out.row 0 rfl; unfold Ints; rw [Bk.rowF_len]; exact h)).mono ?_
  rintro e w3 ⟨v1, v2, rfl, SL⟩
  refine hK _ _ SL.bel ?_
  have S := Lib.hid (S.out.join SL)
  obtain ⟨B1, k1, rfl⟩ := own_shape (SL.own 0 rfl)
  obtain ⟨B2, k2, rfl⟩ := own_shape (SL.own 1 rfl)
  clear hK K SL
  refine seg_last ?_
  simp only [opsAt, List.filterMap_cons, List.filterMap_nil, List.getElem?_toArray, List.getElem?_cons_succ, List.getElem?_cons_zero]
  show wpQuiet _ _ _ _ [_, _, _, _, _] _
  repeat (first | go_big_quiet_step (fail) | quiet_step (fail))
  refine wpQuiet_nil ?_
  go_simp
  refine hKQ _ _ ?_
  clear hKQ KQ
  have hl : (leftTo t d t.ys.length).1.length = t.hs.length := (leftTo_spec t d _).1
  have S := Lib.hid (S.out.cut 1)
  have S := Lib.hid (show St w w3 w3.heap.size [.own 3 1 (.slice B1 t.hs.length k1) (leftTo t d t.ys.length).1.length ((leftTo t d t.ys.length).1.map I)] by rw [hl]; exact S.out)
  go_wp2_with fail
  refine (sorted_any S.out 0 rfl (by omega)).mono ?_
  rintro e w4 ⟨rfl, S2⟩
  have S2 := Lib.hid S2
  rw [hl, lacksL_left] at S2
  go_wp2_with fail
  go_ret
  exact ⟨_, d, rfl, S2.out.own 0 rfl, HBE.out, S2.out.bel⟩

set_option maxRecDepth 100000 in
set_option maxHeartbeats 4000000 in
theorem lacksK_any (v : Value) (t : BTown) (w : World) (hv : BAt w v t) (hn : NnAt w) (hval : bVal t = true) (h12 : t.ys.length ≤ 12) :
    Calls Tryd.prog 29 #[v] w fun e w' => ∃ v' d, e = .returned (.tuple #[v', I 0]) ∧ w'.ownsRow w.heap.size 3 1 v' t.hs.length ((descL (Bk.lacksL t.bt d)).map I) ∧ Bk.Best t.bt d ∧ Below w.heap.size w w' := by
  obtain ⟨hv0, wv, yv, rfl, hh, hw, hy⟩ := hv
  obtain ⟨A1, c1, rfl, -, -, -⟩ := id hh.open_
  obtain ⟨A2, c2, rfl, -, -, -⟩ := id hw.open_
  obtain ⟨A3, c3, rfl, -, -, -⟩ := id hy.open_
  have HH := Lib.hid hh
  have HW := Lib.hid hw
  have HY := Lib.hid hy
  have HV := Lib.hid hval
  have HNN := Lib.hid hn
  have HC := Lib.hid (show bChk t = 0 by unfold bChk bValid; rw [hval]; simp [h12])
  have S := Lib.hid ((St.init w).alloc [.slice A1 t.hs.length c1, .slice A2 t.ws.length c2, .slice A3 t.ys.length c3] 62)
  clear hh hw hy hval hn
  have q0 := S.out.get 0 0 rfl rfl
  have q1 := S.out.get 0 1 rfl rfl
  have q2 := S.out.get 0 2 rfl rfl
  go_enter Tryd.func29, Tryd.ntmps29
  go_wp2_with fail
  clear q0 q1 q2
  refine (kCheck_any _ t _ ⟨_, _, _, rfl, HH.out.below S.out.bel, HW.out.below S.out.bel, HY.out.below S.out.bel⟩).mono ?_
  rintro e w1 ⟨rfl, hb⟩
  rw [HC.out]
  have S := Lib.hid (S.out.call hb)
  clear hb
  have q0 := S.out.get 0 0 rfl rfl
  have q1 := S.out.get 0 1 rfl rfl
  have q2 := S.out.get 0 2 rfl rfl
  go_wp2_with fail
  clear q0 q1 q2
  refine (lacks_any _ t _ ⟨_, _, _, rfl, HH.out.below S.out.bel, HW.out.below S.out.bel, HY.out.below S.out.bel⟩ (HNN.out.below S.out.bel) HV.out h12).mono ?_
  rintro e w2 ⟨v', d, rfl, hown, hbest, hb⟩
  have S := Lib.hid (S.out.take hb hown)
  have HBE := Lib.hid hbest
  obtain ⟨A4, c4, rfl⟩ := own_shape hown
  clear hown hbest hb
  go_wp2_with fail
  refine bodyPost_ret (v := .tuple #[.slice A4 t.hs.length c4, I 0]) (by simp [results, go_sem]) rfl ⟨_, d, rfl, S.out.own 0 rfl, HBE.out, S.out.bel⟩
end Go.Proofs.YtldcehhhndlhdaaDoor
