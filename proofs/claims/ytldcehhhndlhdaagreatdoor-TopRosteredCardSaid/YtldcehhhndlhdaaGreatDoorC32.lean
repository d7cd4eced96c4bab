/- Walks: three, IsNew, MovedOf. -/
import Derived.Test.YtldcehhhndlhdaaGreatDoorC29
import Derived.Test.YtldcehhhndlhdaaGreatDoorC30
import Derived.Test.YtldcehhhndlhdaaGreatDoorC31
import Derived.Test.YtldcehhhndlhdaaGreatDoorC4
namespace Go.Proofs.YtldcehhhndlhdaaGreatDoor.Hr
open Go.RowKit Go.Sort

theorem moved_bd : ∀ (ss : List Str) (l : List Int), 0 ≤ movedN ss l ∧ movedN ss l ≤ ss.length := fun ss l => by
  have := sumW_bd (w := onceI) (M := 1) (by omega) ss l (fun k h1 h2 => by
    have := moveI_nonneg ss[k] l[k]
    unfold onceI; omega)
  unfold movedN; omega

/-- What is full, when so much is left. -/
def Fulls (room left F : List Int) : Prop := F.length = room.length ∧ ∀ h x, room[h]? = some x → F[h]? = some (x - left.getD h 0)
theorem madeCells_int (n : Nat) : (madeCells (Value.cells (.int .i64 0)) (n * 1)).toList = (List.replicate n (0 : Int)).map I := by
  rw [Nat.mul_one, List.map_replicate]
  exact toList_madeCells_one _ _

theorem _root_.Go.Proofs.YtldcehhhndlhdaaGreatDoor.St.madeH {w0 w w' : World} {n : Nat} {L : List Item} (h : St w0 w n L) (hg : w.grownBy w' none) {e size m cap : Nat} {xs : List Value} (ho : w'.ownsRow w0.heap.size e size (.slice (some ⟨w.heap.size, 0, none⟩) m cap) m xs) : St w0 w' w'.heap.size (.own e size (.slice (some ⟨n, 0, none⟩) m cap) m xs :: L) := by
  have hb : Below w.heap.size w w' := ⟨hg.os, hg.tape, hg.output, hg.size, fun k hk => hg.block k hk (by simp)⟩
  have h2 := h.call hb
  rw [h.size] at ho
  refine ⟨rfl, h2.bel, fun x hx => ?_, ?_⟩
  · rcases List.mem_cons.1 hx with hx | hx
    · rw [hx]; exact ho
    · exact h2.ok x hx
  · have e0 : (Item.own e size (.slice (some ⟨n, 0, none⟩) m cap) m xs).blk = some n := rfl
    rw [List.filterMap_cons, e0]
    refine List.nodup_cons.2 ⟨fun hm => ?_, h.apart⟩
    have h4 := (h.lt_of hm).2
    omega

set_option maxRecDepth 20000 in
set_option maxHeartbeats 8000000 in
theorem isNew_any (v v2 : Value) (r : Ros) (l : List Int) (w : World) (hv : RosAt w v r) (hvd : ROk r) (hl : Ints w v2 l) (hlen : l.length ≤ 1000) :
    Calls Tryz.prog 14 #[v, v2] w fun e w' => e = .returned (.bool (newB r l)) ∧ Below w.heap.size w w' := by
  obtain ⟨rv, sv, rfl, hr, hs⟩ := hv
  obtain ⟨A1, c1, rfl, hr1, hr2, -⟩ := hr.open_
  obtain ⟨A2, c2, rfl, hs1, hs2, -⟩ := hs.open_
  have HR := Lib.hid hr
  have HS := Lib.hid hs
  clear hr hs
  have S := Lib.hid (show St w (w.alloc (.cells #[.slice A1 r.room.length c1, .slice A2 r.strs.length c2] 25)) (w.heap.size + 1) [.box w.heap.size [.slice A1 r.room.length c1, .slice A2 r.strs.length c2]] from (St.init w).alloc [.slice A1 r.room.length c1, .slice A2 r.strs.length c2] 25)
  obtain ⟨i0, hi, hz0, hz1, hz2⟩ := info_parts Tryz.info3
  obtain ⟨Al, cl, rfl, hl1, hl2, hlc⟩ := hl.open_
  have HLC := Lib.hid hlc
  obtain ⟨_, _, e, _, _, hsc⟩ := HS.out.open_
  injection e with e1 e2 e3
  subst e1
  have HSC := Lib.hid hsc
  obtain ⟨_, _, e, _, _, hrc⟩ := HR.out.open_
  injection e with e4 e5 e6
  subst e4
  have HRC := Lib.hid hrc
  clear e2 e3 e5 e6 hlc hl hsc hrc
  have q0 := S.out.get 0 0 rfl rfl
  have q1 := S.out.get 0 1 rfl rfl
  by_cases hn : l.length = r.strs.length
  · have hne : ((l.length : Int) != (r.strs.length : Int)) = false := by simp; omega
    have HN := Lib.hid hn
    have HG := Lib.hid (show newB r l = goodL (r.strs.drop 0) (leftTo r.room l 0) (l.drop 0) from rfl)
    have hrl := hvd.rl
    have HVD := Lib.hid hvd
    have hb1 : i0.bytes * r.room.length ≤ 281474976710656 := by rw [hz2]; omega
    have hb2 : r.room.length ≤ maxLen := by simp only [maxLen]; omega
    have hb3 := S.out.bel.size
    have HF0 := Lib.hid (show Fulls r.room (leftTo r.room l 0) (List.replicate r.room.length 0) from ⟨by simp, fun h x hx => by
      have hl := (List.getElem?_eq_some_iff.1 hx).1
      rw [List.getElem?_replicate, if_pos hl, leftTo, List.getD_eq_getElem?_getD, hx]
      simp⟩)
    clear hn hvd
    go_enter Tryz.func14, Tryz.ntmps14
    go_wp2_with (refine wpList_make_full _ rfl (.tmp 15) (.tmp 15) 22 rfl w.heap.size 3 i0 (.int .i64 0) 1 Tryz.underlying22 hi hz0 hz1 .i64 .i64 _ _ r.room.length rfl rfl rfl rfl hb1 hb2 hb3 ?_; intro w1 hown hgr)
    have S := Lib.hid (S.out.madeH hgr hown)
    rw [madeCells_int] at S
    clear q0 q1 hown hgr hb1 hb2 hb3
    go_loopw [6] (fun i wr => ∃ (k : Nat) (F : List Int), k ≤ l.length ∧ i = I k ∧ Hid (newB r l = goodL (r.strs.drop k) (leftTo r.room l k) (l.drop k)) ∧ Hid (∀ x ∈ leftTo r.room l k, 0 ≤ x ∧ x ≤ 6) ∧ Hid (Fulls r.room (leftTo r.room l k) F) ∧ Hid (St w wr wr.heap.size [.own 3 1 (.slice (some ⟨w.heap.size + 1, 0, none⟩) r.room.length r.room.length) r.room.length (F.map I), .box w.heap.size [.slice A1 r.room.length c1, .slice A2 r.strs.length c2]])) (fun i _ => l.length - (intOf i).toNat)
    case atStart => exact ⟨0, _, by omega, rfl, HG, Lib.hid HVD.out.rm, HF0, S⟩
    case round =>
      clear S HG HF0
      obtain ⟨k, F, hk, rfl, HG, HM, HF, S⟩ := hrel
      by_cases hlt : k < l.length
      · have hlt2 : k < r.strs.length := by have := HN.out; omega
        have hki : (k : Int) < (l.length : Int) := by omega
        have hki2 : (k : Int) < (r.strs.length : Int) := by omega
        obtain ⟨b1, o1, rfl, hb1, hcell1⟩ := HLC.out (by omega)
        obtain ⟨b2, o2, rfl, hb2, hcell2⟩ := HSC.out (by omega)
        obtain ⟨-, z1, z2, -⟩ := hcell2 k hlt2
        have x0 := hcell1 k hlt
        clear hcell1 hcell2
        obtain ⟨s, hs⟩ : ∃ s, r.strs[k] = s := ⟨_, rfl⟩
        obtain ⟨hh, hhe⟩ : ∃ x, l[k] = x := ⟨_, rfl⟩
        rw [hs] at z1 z2
        rw [hhe] at x0
        have hso := HVD.out.so s (by rw [← hs]; exact List.getElem_mem hlt2)
        have hstep := goodL_drop r.strs r.room l k hlt hlt2
        rw [show l.getD k 0 = hh by rw [← hhe]; simp [List.getD_eq_getElem?_getD, List.getElem?_eq_getElem hlt], show r.strs.getD k default = s by rw [← hs]; simp [List.getD_eq_getElem?_getD, List.getElem?_eq_getElem hlt2]] at hstep
        have hnext : leftTo r.room l (k + 1) = dec (leftTo r.room l k) hh := by rw [leftTo, show l.getD k 0 = hh by rw [← hhe]; simp [List.getD_eq_getElem?_getD, List.getElem?_eq_getElem hlt]]
        have HY := Lib.hid (And.intro z1 z2)
        have HST := Lib.hid hstep
        have HNX := Lib.hid hnext
        have HSO := Lib.hid hso
        clear z1 z2 hs hhe hstep hnext hso
        cases hin : inR hh s.frm s.to
        · have HI := Lib.hid hin
          have X0 := Lib.hid x0
          have HFF := Lib.hid (show newB r l = false by rw [HG.out, HST.out, hin]; rfl)
          clear hin x0
          go_wp2_with fail
          refine wp_region_seg [([0, 1, 2, 3, 4, 5, 6, 7, 8, 9, 10, 11, 12, 13, 14, 15], 16)] [17] [] 18 (by kernel_rfl) (by kernel_rfl) ?_
          intro KQ hKQ w2 hb
          have S := Lib.hid (S.out.call hb)
          clear hb
          have q1_1 := cell_regrown (S.out.get 1 1 rfl rfl)
          have y0 := cell_regrown (keep_cell S.out.bel X0.out)
          have y1 := cell_regrown (keep_cell S.out.bel HY.out.1)
          have y2 := cell_regrown (keep_cell S.out.bel HY.out.2)
          refine seg_next ?_
          simp only [opsAt, List.filterMap_cons, List.filterMap_nil, List.getElem?_toArray, List.getElem?_cons_succ, List.getElem?_cons_zero]
          repeat (first | go_big_quiet_step (fail) | quiet_step (fail))
          refine wpQuiet_nil ?_
          intro K hK
          refine loud_op rfl rfl ?_
          go_simp
          refine (rWithin_any hh s.frm s.to _).mono ?_
          rintro e w3 ⟨rfl, rfl⟩
          rw [HI.out]
          refine hK _ _ (Below.refl _ _) ?_
          clear hK K
          refine seg_last ?_
          simp only [opsAt, List.filterMap_cons, List.filterMap_nil, List.getElem?_toArray, List.getElem?_cons_succ, List.getElem?_cons_zero]
          repeat (first | go_big_quiet_step (fail) | quiet_step (fail))
          refine wpQuiet_nil ?_
          clear q1_1 y0 y1 y2
          go_wp2_with fail
          go_ret
          exact ⟨by rw [HFF.out]; rfl, S.out.bel⟩
        · obtain ⟨hi1, hi2⟩ := inR_iff.1 hin
          have HI := Lib.hid hin
          clear hin
          have hf0 := HSO.out.1.frm0
          have ht0 := HSO.out.2.1
          obtain ⟨hh, rfl⟩ := Int.eq_ofNat_of_zero_le (show 0 ≤ hh by omega)
          have hhl : hh < r.room.length := by omega
          have X0 := Lib.hid x0
          obtain ⟨b3, o3, rfl, hb3, hcell3⟩ := HRC.out (by omega)
          obtain ⟨rm, hrm⟩ : ∃ x, r.room[hh] = x := ⟨_, rfl⟩
          have hc3 := hcell3 hh hhl
          rw [hrm] at hc3
          have RC0 := Lib.hid hc3
          have hll : (leftTo r.room l k).length = r.room.length := leftTo_len _ _ _
          obtain ⟨lv, hlv⟩ : ∃ x, at_ (leftTo r.room l k) (hh : Int) = x := ⟨_, rfl⟩
          have hat : (leftTo r.room l k)[hh]? = some lv := by rw [← hlv, at_nat, List.getD_eq_getElem?_getD, List.getElem?_eq_getElem (by omega)]; rfl
          have hlb := HM.out lv (List.mem_of_getElem? hat)
          have hrb := HVD.out.rm rm (by rw [← hrm]; exact List.getElem_mem hhl)
          have hF1 : F[hh]? = some (rm - lv) := by
            rw [HF.out.2 hh rm (by rw [List.getElem?_eq_getElem hhl, hrm]), List.getD_eq_getElem?_getD, hat]; rfl
          have AF1 := Lib.hid hF1
          have hhi : (hh : Int) < (r.room.length : Int) := by omega
          have HLV := Lib.hid hlv
          have HAT := Lib.hid hat
          have HRM := Lib.hid hrm
          have AF2 := Lib.hid (show (F.set hh (rm - lv + 1))[hh]? = some (rm - lv + 1) by rw [List.getElem?_set_self (by rw [HF.out.1]; exact hhl)])
          clear hcell3 hc3 hrm hll hlv hat hF1 x0 hi1 hi2 hf0 ht0
          go_wp2_with fail
          refine wp_region_seg [([0, 1, 2, 3, 4, 5, 6, 7, 8, 9, 10, 11, 12, 13, 14, 15], 16)] [17] [] 18 (by kernel_rfl) (by kernel_rfl) ?_
          intro KQ hKQ w2 hb
          have S := Lib.hid (S.out.call hb)
          clear hb
          have q1_1 := cell_regrown (S.out.get 1 1 rfl rfl)
          have y0 := cell_regrown (keep_cell S.out.bel X0.out)
          have y1 := cell_regrown (keep_cell S.out.bel HY.out.1)
          have y2 := cell_regrown (keep_cell S.out.bel HY.out.2)
          refine seg_next ?_
          simp only [opsAt, List.filterMap_cons, List.filterMap_nil, List.getElem?_toArray, List.getElem?_cons_succ, List.getElem?_cons_zero]
          repeat (first | go_big_quiet_step (fail) | quiet_step (fail))
          refine wpQuiet_nil ?_
          intro K hK
          refine loud_op rfl rfl ?_
          go_simp
          refine (rWithin_any (hh : Int) s.frm s.to _).mono ?_
          rintro e w3 ⟨rfl, rfl⟩
          rw [HI.out]
          refine hK _ _ (Below.refl _ _) ?_
          clear hK K
          refine seg_last ?_
          simp only [opsAt, List.filterMap_cons, List.filterMap_nil, List.getElem?_toArray, List.getElem?_cons_succ, List.getElem?_cons_zero]
          repeat (first | go_big_quiet_step (fail) | quiet_step (fail))
          refine wpQuiet_nil ?_
          clear q1_1 y0 y1 y2
          have y0 := keep_cell S.out.bel X0.out
          have y3 := own_cell (S.out.own 0 rfl) hh (rm - lv) AF1.out
          have y4 := (S.out.own 0 rfl).frozenAt hh
          have S := Lib.hid (S.out.put 0 hh (I (rm - lv + 1)) rfl)
          rw [← List.map_set] at S
          by_cases h0 : lv = 0
          · have HFF := Lib.hid (show newB r l = false by rw [HG.out, HST.out, HI.out, HLV.out, h0]; rfl)
            have hgt : rm < rm - lv + 1 := by omega
            clear h0
            go_wp2_with fail
            clear y0 y3 y4
            refine wp_region_seg [] [0, 1, 2, 3, 4, 5, 6, 7, 8, 9, 10, 11, 12, 13, 14, 15] [] 16 (by kernel_rfl) (by kernel_rfl) ?_
            intro KQ hKQ w4 hb
            have S := Lib.hid (S.out.call hb)
            clear hb
            have q1_0 := cell_regrown (S.out.get 1 0 rfl rfl)
            have y0 := cell_regrown (keep_cell S.out.bel X0.out)
            have y3 := cell_regrown (own_cell (S.out.own 0 rfl) hh (rm - lv + 1) AF2.out)
            have y4 := cell_regrown (keep_cell S.out.bel RC0.out)
            refine seg_last ?_
            simp only [opsAt, List.filterMap_cons, List.filterMap_nil, List.getElem?_toArray, List.getElem?_cons_succ, List.getElem?_cons_zero]
            repeat (first | go_big_quiet_step (fail) | quiet_step (fail))
            refine wpQuiet_nil ?_
            clear q1_0 y0 y3 y4
            go_wp2_with fail
            go_ret
            exact ⟨by rw [HFF.out]; rfl, S.out.bel⟩
          · have HG2 := Lib.hid (show newB r l = goodL (r.strs.drop (k + 1)) (leftTo r.room l (k + 1)) (l.drop (k + 1)) by rw [HG.out, HST.out, HI.out, HLV.out]; simp [h0])
            have hgt : ¬ rm < rm - lv + 1 := by omega
            have h0' : 1 ≤ lv := by omega
            clear h0
            go_wp2_with fail
            clear y0 y3 y4
            refine wp_region_seg [] [0, 1, 2, 3, 4, 5, 6, 7, 8, 9, 10, 11, 12, 13, 14, 15] [] 16 (by kernel_rfl) (by kernel_rfl) ?_
            intro KQ hKQ w4 hb
            have S := Lib.hid (S.out.call hb)
            clear hb
            have q1_0 := cell_regrown (S.out.get 1 0 rfl rfl)
            have y0 := cell_regrown (keep_cell S.out.bel X0.out)
            have y3 := cell_regrown (own_cell (S.out.own 0 rfl) hh (rm - lv + 1) AF2.out)
            have y4 := cell_regrown (keep_cell S.out.bel RC0.out)
            refine seg_last ?_
            simp only [opsAt, List.filterMap_cons, List.filterMap_nil, List.getElem?_toArray, List.getElem?_cons_succ, List.getElem?_cons_zero]
            repeat (first | go_big_quiet_step (fail) | quiet_step (fail))
            refine wpQuiet_nil ?_
            clear q1_0 y0 y3 y4
            go_wp2_with fail
            go_roundw
            case rel => exact ⟨k + 1, F.set hh (rm - lv + 1), by omega, by go_num, HG2, Lib.hid (by
                rw [HNX.out]
                intro x hx
                rcases List.mem_or_eq_of_mem_set hx with hx | rfl
                · exact HM.out x hx
                · rw [HLV.out]; omega), Lib.hid (by
                rw [HNX.out]
                refine ⟨by rw [List.length_set]; exact HF.out.1, fun h x hx => ?_⟩
                have hhx := (List.getElem?_eq_some_iff.1 hx).1
                rw [dec, HLV.out, Int.toNat_natCast, List.getD_eq_getElem?_getD]
                by_cases he : hh = h
                · subst he
                  rw [List.getElem?_set_self (by rw [HF.out.1]; exact hhl), List.getElem?_set_self (by rw [leftTo_len]; exact hhl)]
                  have : rm = x := by rw [List.getElem?_eq_getElem hhl, HRM.out] at hx; injection hx
                  subst this
                  simp; omega
                · rw [List.getElem?_set_ne he, List.getElem?_set_ne he, HF.out.2 h x hx, List.getD_eq_getElem?_getD]), S⟩
            case measure => first | (simp [intOf]; done) | (simp [intOf]; omega)
      · have HFF := Lib.hid (show newB r l = true by rw [HG.out, List.drop_eq_nil_of_le (by have := HN.out; omega), List.drop_eq_nil_of_le (by omega)]; rfl)
        go_wp2_with fail
        go_ret
        exact ⟨by rw [HFF.out]; rfl, S.out.bel⟩
  · have hne : ((l.length : Int) != (r.strs.length : Int)) = true := by simp; omega
    have HFF := Lib.hid (show newB r l = false by
      cases h : newB r l
      · rfl
      · exact absurd (goodL_length _ _ _ h) hn)
    clear hn
    go_enter Tryz.func14, Tryz.ntmps14
    go_wp2_with fail
    go_ret
    exact ⟨by rw [HFF.out]; rfl, S.out.bel⟩

/-- All that are moved, among the first k. -/
def movedTo (ss : List Str) (l : List Int) (k : Nat) : List Int := ((List.range k).filter fun i => decide (0 < moveI (ss.getD i default) (l.getD i 0))).map fun i : Nat => (i : Int)
def movedL (ss : List Str) (l : List Int) : List Int := movedTo ss l l.length
theorem movedTo_len (ss : List Str) (l : List Int) (k : Nat) : (movedTo ss l k).length ≤ k := by
  unfold movedTo
  rw [List.length_map]
  have := List.length_filter_le (fun i => decide (0 < moveI (ss.getD i default) (l.getD i 0))) (List.range k)
  simpa using this
theorem movedTo_succ (ss : List Str) (l : List Int) (k : Nat) : movedTo ss l (k + 1) = if 0 < moveI (ss.getD k default) (l.getD k 0) then movedTo ss l k ++ [(k : Int)] else movedTo ss l k := by
  unfold movedTo
  rw [List.range_succ, List.filter_append, List.map_append]
  by_cases h : 0 < moveI (ss.getD k default) (l.getD k 0)
  · rw [if_pos h, List.filter_cons_of_pos (by simpa using h)]; rfl
  · rw [if_neg h, List.filter_cons_of_neg (by simpa using h)]; simp

end Go.Proofs.YtldcehhhndlhdaaGreatDoor.Hr
