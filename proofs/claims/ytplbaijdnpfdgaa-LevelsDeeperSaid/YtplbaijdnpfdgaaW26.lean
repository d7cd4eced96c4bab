/- Walk: levels.Holds. -/
import Derived.Test.YtplbaijdnpfdgaaW25
namespace Go.Proofs.Ytplbaijdnpfdgaa
open Go.RowKit Go.Sort

def baseB (t : Twn) (l : List Int) : Bool := decide ((l.length : Int) = t.wells) && l.all trOwn
def sndB (t : Twn) (l : List Int) (k : Nat) : Bool := baseB t l && (t.snd.take k).all (trSnd l)
def slpB (t : Twn) (l : List Int) (k : Nat) : Bool := sndB t l t.snd.length && (t.slp.take k).all (trSlp l)
theorem slpB_all (t : Twn) (l : List Int) : slpB t l t.slp.length = isTrB t l := by simp [slpB, sndB, baseB, isTrB]
theorem sndB_succ {t : Twn} {l : List Int} {k : Nat} (h : k < t.snd.length) : sndB t l (k + 1) = (sndB t l k && trSnd l t.snd[k]) := by rw [sndB, all_snoc _ _ _ h, ← Bool.and_assoc]; rfl
theorem slpB_succ {t : Twn} {l : List Int} {k : Nat} (h : k < t.slp.length) : slpB t l (k + 1) = (slpB t l k && trSlp l t.slp[k]) := by rw [slpB, all_snoc _ _ _ h, ← Bool.and_assoc]; rfl
theorem baseB_true {t : Twn} {l : List Int} (h : baseB t l = true) : (l.length : Int) = t.wells ∧ l.all trOwn = true := by simpa [baseB] using h
theorem sndB_true {t : Twn} {l : List Int} {k : Nat} (h : sndB t l k = true) : (l.length : Int) = t.wells ∧ l.all trOwn = true := by
  simp only [sndB, Bool.and_eq_true] at h; exact baseB_true h.1
theorem slpB_true {t : Twn} {l : List Int} {k : Nat} (h : slpB t l k = true) : (l.length : Int) = t.wells ∧ l.all trOwn = true := by
  simp only [slpB, Bool.and_eq_true] at h; exact sndB_true h.1

set_option maxRecDepth 20000 in
set_option maxHeartbeats 8000000 in
theorem holds_any (v lv : Value) (t : Twn) (l : List Int) (w : World) (hv : TwnAt w v t) (hl : Ints w lv l) :
    Calls Try.prog 61 #[v, lv] w fun e w' => e = .returned (.tuple #[.bool (holdsP t l).1, I (holdsP t l).2]) ∧ Below w.heap.size w w' := by
  have HLL := Lib.hid hl
  obtain ⟨sv, pv, rfl, hs, hp⟩ := hv
  obtain ⟨A1, c1, rfl, hsl1, hsl2, hc1⟩ := hs.open_
  obtain ⟨A2, c2, rfl, hpl1, hpl2, hc2⟩ := hp.open_
  have HSN := Lib.hid hs
  have HSP := Lib.hid hp
  have HC1 := Lib.hid hc1
  have HC2 := Lib.hid hc2
  clear hc1 hc2 hs hp
  obtain ⟨A3, c3, rfl, -, -, -⟩ := id hl.open_
  obtain ⟨-, hc3⟩ := hl.at_get rfl
  have HC3 := Lib.hid hc3
  clear hl hc3
  have S := Lib.hid (show St w (w.alloc (.cells #[I t.wells, .slice A1 t.snd.length c1, .slice A2 t.slp.length c2] 25)) (w.heap.size + 1) [.box w.heap.size [I t.wells, .slice A1 t.snd.length c1, .slice A2 t.slp.length c2]] from (St.init w).alloc [I t.wells, .slice A1 t.snd.length c1, .slice A2 t.slp.length c2] 25)
  have q0 := S.out.get 0 0 rfl rfl
  have q1 := S.out.get 0 1 rfl rfl
  have q2 := S.out.get 0 2 rfl rfl
  cases hv : valid t
  · have HC := Lib.hid (show chk t = 10 by simp [chk, hv])
    have HE := Lib.hid (show holdsP t l = (false, 10) by simp [holdsP, hv])
    clear hv
    go_enter Try.func61, Try.ntmps61
    go_wp2_with fail
    clear q0 q1 q2
    refine (check_any _ t _ ⟨_, _, rfl, HSN.out.below S.out.bel, HSP.out.below S.out.bel⟩).mono ?_
    rintro e w1 ⟨rfl, hb⟩
    rw [HC.out]
    have S := Lib.hid (S.out.call hb)
    clear hb
    have q0 := S.out.get 0 0 rfl rfl
    have q1 := S.out.get 0 1 rfl rfl
    have q2 := S.out.get 0 2 rfl rfl
    go_wp2_with fail
    go_ret2
    exact ⟨by rw [HE.out]; rfl, S.out.bel⟩
  · have HC := Lib.hid (show chk t = 0 by simp [chk, hv])
    have HE := Lib.hid (show holdsP t l = (isTrB t l, 0) by simp [holdsP, hv])
    obtain ⟨hvl, hs8, hp8⟩ := valid_iff'.1 hv
    clear hv
    cases hq : ((l.length : Int) == t.wells)
    · have hbb : baseB t l = false := by simp [baseB]; intro h; simp [h] at hq
      have HBB := Lib.hid hbb
      clear hbb
      go_enter Try.func61, Try.ntmps61
      go_wp2_with fail
      clear q0 q1 q2
      refine (check_any _ t _ ⟨_, _, rfl, HSN.out.below S.out.bel, HSP.out.below S.out.bel⟩).mono ?_
      rintro e w1 ⟨rfl, hb⟩
      rw [HC.out]
      have S := Lib.hid (S.out.call hb)
      clear hb
      have q0 := S.out.get 0 0 rfl rfl
      have q1 := S.out.get 0 1 rfl rfl
      have q2 := S.out.get 0 2 rfl rfl
      go_wp2_with fail
      clear q0 q1 q2 hq
      go_loopw [7, 30] (fun u i wr => ∃ k : Nat, k ≤ t.snd.length ∧ u = .bool (sndB t l k) ∧ i = I k ∧ Hid (St w wr wr.heap.size [.box w.heap.size [I t.wells, .slice A1 t.snd.length c1, .slice A2 t.slp.length c2]])) (fun _ i _ => t.snd.length - (intOf i).toNat)
      case atStart => exact ⟨0, by omega, by simp [sndB]; exact HBB.out, rfl, Lib.hid S.out.fix⟩
      case round =>
        clear S
        obtain ⟨k, hk, rfl, rfl, S⟩ := hrel
        have q0 := S.out.get 0 0 rfl rfl
        have q1 := S.out.get 0 1 rfl rfl
        have q2 := S.out.get 0 2 rfl rfl
        by_cases hlt : k < t.snd.length
        · obtain ⟨b1, o1, rfl, hb1, hcell1⟩ := HC1.out (by omega)
          obtain ⟨x0, x1, x2⟩ := hcell1 k hlt
          have x0 := keep_cell S.out.bel x0
          have x1 := keep_cell S.out.bel x1
          have x2 := keep_cell S.out.bel x2
          have hvk := hvl.snd t.snd[k] (List.getElem_mem hlt)
          clear hcell1
          obtain ⟨⟨sw, sl, sh⟩, hs⟩ : ∃ s, t.snd[k] = s := ⟨_, rfl⟩
          have HTK := Lib.hid hs
          rw [hs] at x0 x1 x2 hvk
          clear hs
          dsimp only at x0 x1 x2 hvk
          have hlt0 := S.out.lt 0 rfl
          cases gb : sndB t l k
          · have HG := Lib.hid (show sndB t l (k + 1) = false by rw [sndB_succ hlt, gb]; rfl)

            clear gb
            go_wp2_with fail
            have S := Lib.hid (S.out.alloc [I sw, I sl, I sh] 57)
            clear hlt0 q0 q1 q2 x0 x1 x2
            have hnb : ((false : Bool) = true) = False := by simp
            clear hnb
            refine wp_region_quiet_below (by kernel_rfl) (by kernel_rfl) ?_
            repeat (first | go_big_quiet_step (fail) | quiet_step (fail))
            refine wpQuiet_nil ?_
            rintro w5 ⟨p5, hp5⟩
            have S := Lib.hid (show St w w5 w5.heap.size _ from (by rw [hp5]; exact S.out.call (below_regrown _ _ _)))
            clear hp5
            go_wp2_with fail
            go_roundw
            case rel => exact ⟨k + 1, by omega, by rw [HG.out], by go_num, Lib.hid S.out.fix.tail⟩
            case measure => first | (simp [intOf]; done) | (simp [intOf]; omega)
          · have HL := Lib.hid (sndB_true gb)
            have hl0 : 0 < l.length := by have := HL.out.1; omega
            obtain ⟨b3, o3, rfl, hb3, hcell3⟩ := HC3.out hl0
            obtain ⟨m, rfl⟩ := Int.eq_ofNat_of_zero_le hvk.1
            have hm : (m : Int) < (l.length : Int) := by have := HL.out.1; omega
            obtain ⟨u, hu⟩ : ∃ u, l.getD m 0 = u := ⟨_, rfl⟩
            have HUm := Lib.hid hu
            clear hu
            cases gx : inR u sl sh
            · have HG := Lib.hid gx
              have HN := Lib.hid (show sndB t l (k + 1) = false by rw [sndB_succ hlt, gb, HTK.out, trSnd_eq HUm.out, gx]; rfl)
              clear gx

              clear gb
              go_wp2_with fail
              have S := Lib.hid (S.out.alloc [I (m : Int), I sl, I sh] 57)
              clear hlt0 q0 q1 q2 x0 x1 x2
              refine wp_region_treeB (.node [0, 1, 2, 3, 4, 5, 6, 7, 8, 9, 10] [11] (fun _ => .last [12, 13] [])) 14 (by kernel_rfl) (by kernel_rfl) ?_
              intro KQ hKQ w1 hb
              have S := Lib.hid (S.out.call hb)
              have HB := Lib.hid hb
              clear hb
              have p0 := cell_regrown (S.out.get 0 0 rfl rfl)
              have p1 := cell_regrown (S.out.get 0 1 rfl rfl)
              have p2 := cell_regrown (S.out.get 0 2 rfl rfl)
              have r0 := cell_regrown (keep_cell S.out.bel (hcell3 m (by have := HL.out.1; omega)))
              rw [HUm.out] at r0
              refine treeB_node ?_
              simp only [opsAt, List.filterMap_cons, List.filterMap_nil, List.getElem?_toArray, List.getElem?_cons_succ, List.getElem?_cons_zero]
              repeat (first | go_big_quiet_step (fail) | quiet_step (fail))
              refine wpQuiet_nil ?_
              refine all_one ?_
              intro K hK
              refine loud_op rfl rfl ?_
              go_simp
              refine (within_any _ _ _ _).mono ?_
              rintro e w' ⟨rfl, rfl⟩
              rw [HG.out]
              refine hK _ _ (Below.refl _ _) ?_
              clear hK K p0 p1 p2 r0
              refine treeB_last ?_
              simp only [opsAt, List.filterMap_cons, List.filterMap_nil, List.getElem?_toArray, List.getElem?_cons_succ, List.getElem?_cons_zero]
              repeat (first | go_big_quiet_step (fail) | quiet_step (fail))
              refine wpQuiet_nil ?_
              go_wp2_with fail
              go_roundw
              case rel => exact ⟨k + 1, by omega, by rw [HN.out], by go_num, Lib.hid S.out.fix.tail⟩
              case measure => first | (simp [intOf]; done) | (simp [intOf]; omega)
            · have HG := Lib.hid gx
              have HN := Lib.hid (show sndB t l (k + 1) = true by rw [sndB_succ hlt, gb, HTK.out, trSnd_eq HUm.out, gx]; rfl)
              clear gx

              clear gb
              go_wp2_with fail
              have S := Lib.hid (S.out.alloc [I (m : Int), I sl, I sh] 57)
              clear hlt0 q0 q1 q2 x0 x1 x2
              refine wp_region_treeB (.node [0, 1, 2, 3, 4, 5, 6, 7, 8, 9, 10] [11] (fun _ => .last [12, 13] [])) 14 (by kernel_rfl) (by kernel_rfl) ?_
              intro KQ hKQ w1 hb
              have S := Lib.hid (S.out.call hb)
              have HB := Lib.hid hb
              clear hb
              have p0 := cell_regrown (S.out.get 0 0 rfl rfl)
              have p1 := cell_regrown (S.out.get 0 1 rfl rfl)
              have p2 := cell_regrown (S.out.get 0 2 rfl rfl)
              have r0 := cell_regrown (keep_cell S.out.bel (hcell3 m (by have := HL.out.1; omega)))
              rw [HUm.out] at r0
              refine treeB_node ?_
              simp only [opsAt, List.filterMap_cons, List.filterMap_nil, List.getElem?_toArray, List.getElem?_cons_succ, List.getElem?_cons_zero]
              repeat (first | go_big_quiet_step (fail) | quiet_step (fail))
              refine wpQuiet_nil ?_
              refine all_one ?_
              intro K hK
              refine loud_op rfl rfl ?_
              go_simp
              refine (within_any _ _ _ _).mono ?_
              rintro e w' ⟨rfl, rfl⟩
              rw [HG.out]
              refine hK _ _ (Below.refl _ _) ?_
              clear hK K p0 p1 p2 r0
              refine treeB_last ?_
              simp only [opsAt, List.filterMap_cons, List.filterMap_nil, List.getElem?_toArray, List.getElem?_cons_succ, List.getElem?_cons_zero]
              repeat (first | go_big_quiet_step (fail) | quiet_step (fail))
              refine wpQuiet_nil ?_
              go_wp2_with fail
              go_roundw
              case rel => exact ⟨k + 1, by omega, by rw [HN.out], by go_num, Lib.hid S.out.fix.tail⟩
              case measure => first | (simp [intOf]; done) | (simp [intOf]; omega)
        · obtain rfl : k = t.snd.length := by omega
          go_wp2_with fail
          go_loopw [7, 51] (fun u i wr => ∃ k : Nat, k ≤ t.slp.length ∧ u = .bool (slpB t l k) ∧ i = I k ∧ Hid (St w wr wr.heap.size [.box w.heap.size [I t.wells, .slice A1 t.snd.length c1, .slice A2 t.slp.length c2]])) (fun _ i _ => t.slp.length - (intOf i).toNat)
          case atStart => exact ⟨0, by omega, by simp [slpB], rfl, Lib.hid S.out.fix⟩
          case round =>
            clear S
            obtain ⟨k, hk, rfl, rfl, S⟩ := hrel
            have q0 := S.out.get 0 0 rfl rfl
            have q1 := S.out.get 0 1 rfl rfl
            have q2 := S.out.get 0 2 rfl rfl
            by_cases hlt : k < t.slp.length
            · obtain ⟨b1, o1, rfl, hb1, hcell1⟩ := HC2.out (by omega)
              obtain ⟨x0, x1, x2, x3⟩ := hcell1 k hlt
              have x0 := keep_cell S.out.bel x0
              have x1 := keep_cell S.out.bel x1
              have x2 := keep_cell S.out.bel x2
              have x3 := keep_cell S.out.bel x3
              have hvk := hvl.slp t.slp[k] (List.getElem_mem hlt)
              clear hcell1
              obtain ⟨⟨sa, sb, sl, sh⟩, hs⟩ : ∃ s, t.slp[k] = s := ⟨_, rfl⟩
              have HTK := Lib.hid hs
              rw [hs] at x0 x1 x2 x3 hvk
              clear hs
              dsimp only at x0 x1 x2 x3 hvk
              have hlt0 := S.out.lt 0 rfl
              cases gb : slpB t l k
              · have HG := Lib.hid (show slpB t l (k + 1) = false by rw [slpB_succ hlt, gb]; rfl)

                clear gb
                go_wp2_with fail
                have S := Lib.hid (S.out.alloc [I sa, I sb, I sl, I sh] 47)
                clear hlt0 q0 q1 q2 x0 x1 x2 x3
                have hnb : ((false : Bool) = true) = False := by simp
                clear hnb
                refine wp_region_quiet_below (by kernel_rfl) (by kernel_rfl) ?_
                repeat (first | go_big_quiet_step (fail) | quiet_step (fail))
                refine wpQuiet_nil ?_
                rintro w5 ⟨p5, hp5⟩
                have S := Lib.hid (show St w w5 w5.heap.size _ from (by rw [hp5]; exact S.out.call (below_regrown _ _ _)))
                clear hp5
                go_wp2_with fail
                go_roundw
                case rel => exact ⟨k + 1, by omega, by rw [HG.out], by go_num, Lib.hid S.out.fix.tail⟩
                case measure => first | (simp [intOf]; done) | (simp [intOf]; omega)
              · have HL := Lib.hid (slpB_true gb)
                have hl0 : 0 < l.length := by have := HL.out.1; omega
                obtain ⟨b3, o3, rfl, hb3, hcell3⟩ := HC3.out hl0
                obtain ⟨m, rfl⟩ := Int.eq_ofNat_of_zero_le hvk.1
                obtain ⟨p, rfl⟩ := Int.eq_ofNat_of_zero_le hvk.2.2.1
                have hm : (m : Int) < (l.length : Int) := by have := HL.out.1; omega
                have hp : (p : Int) < (l.length : Int) := by have := HL.out.1; omega
                have hbm := ownB HL.out.2 (show m < l.length by omega)
                have hbp := ownB HL.out.2 (show p < l.length by omega)
                obtain ⟨u, hu⟩ : ∃ u, l.getD m 0 = u := ⟨_, rfl⟩
                obtain ⟨z, hz⟩ : ∃ z, l.getD p 0 = z := ⟨_, rfl⟩
                rw [hu] at hbm
                rw [hz] at hbp
                have i1 : IntKind.i64.wrap (z - u) = z - u := IntWalk.i64_in _ (by omega)
                have HUm := Lib.hid hu
                have HUp := Lib.hid hz
                clear hu hz
                cases gx : inR (z - u) sl sh
                · have HG := Lib.hid gx
                  have HN := Lib.hid (show slpB t l (k + 1) = false by rw [slpB_succ hlt, gb, HTK.out, trSlp_eq HUm.out HUp.out, gx]; rfl)
                  clear gx

                  clear gb
                  go_wp2_with fail
                  have S := Lib.hid (S.out.alloc [I (m : Int), I (p : Int), I sl, I sh] 47)
                  clear hlt0 q0 q1 q2 x0 x1 x2 x3
                  refine wp_region_treeB (.node [0, 1, 2, 3, 4, 5, 6, 7, 8, 9, 10, 11, 12, 13, 14, 15, 16] [17] (fun _ => .last [18, 19] [])) 20 (by kernel_rfl) (by kernel_rfl) ?_
                  intro KQ hKQ w1 hb
                  have S := Lib.hid (S.out.call hb)
                  have HB := Lib.hid hb
                  clear hb
                  have p0 := cell_regrown (S.out.get 0 0 rfl rfl)
                  have p1 := cell_regrown (S.out.get 0 1 rfl rfl)
                  have p2 := cell_regrown (S.out.get 0 2 rfl rfl)
                  have p3 := cell_regrown (S.out.get 0 3 rfl rfl)
                  have r0 := cell_regrown (keep_cell S.out.bel (hcell3 m (by have := HL.out.1; omega)))
                  rw [HUm.out] at r0
                  have r1 := cell_regrown (keep_cell S.out.bel (hcell3 p (by have := HL.out.1; omega)))
                  rw [HUp.out] at r1
                  refine treeB_node ?_
                  simp only [opsAt, List.filterMap_cons, List.filterMap_nil, List.getElem?_toArray, List.getElem?_cons_succ, List.getElem?_cons_zero]
                  repeat (first | go_big_quiet_step (fail) | quiet_step (fail))
                  refine wpQuiet_nil ?_
                  refine all_one ?_
                  intro K hK
                  refine loud_op rfl rfl ?_
                  go_simp
                  refine (within_any _ _ _ _).mono ?_
                  rintro e w' ⟨rfl, rfl⟩
                  rw [HG.out]
                  refine hK _ _ (Below.refl _ _) ?_
                  clear hK K p0 p1 p2 p3 r0 r1
                  refine treeB_last ?_
                  simp only [opsAt, List.filterMap_cons, List.filterMap_nil, List.getElem?_toArray, List.getElem?_cons_succ, List.getElem?_cons_zero]
                  repeat (first | go_big_quiet_step (fail) | quiet_step (fail))
                  refine wpQuiet_nil ?_
                  go_wp2_with fail
                  go_roundw
                  case rel => exact ⟨k + 1, by omega, by rw [HN.out], by go_num, Lib.hid S.out.fix.tail⟩
                  case measure => first | (simp [intOf]; done) | (simp [intOf]; omega)
                · have HG := Lib.hid gx
                  have HN := Lib.hid (show slpB t l (k + 1) = true by rw [slpB_succ hlt, gb, HTK.out, trSlp_eq HUm.out HUp.out, gx]; rfl)
                  clear gx

                  clear gb
                  go_wp2_with fail
                  have S := Lib.hid (S.out.alloc [I (m : Int), I (p : Int), I sl, I sh] 47)
                  clear hlt0 q0 q1 q2 x0 x1 x2 x3
                  refine wp_region_treeB (.node [0, 1, 2, 3, 4, 5, 6, 7, 8, 9, 10, 11, 12, 13, 14, 15, 16] [17] (fun _ => .last [18, 19] [])) 20 (by kernel_rfl) (by kernel_rfl) ?_
                  intro KQ hKQ w1 hb
                  have S := Lib.hid (S.out.call hb)
                  have HB := Lib.hid hb
                  clear hb
                  have p0 := cell_regrown (S.out.get 0 0 rfl rfl)
                  have p1 := cell_regrown (S.out.get 0 1 rfl rfl)
                  have p2 := cell_regrown (S.out.get 0 2 rfl rfl)
                  have p3 := cell_regrown (S.out.get 0 3 rfl rfl)
                  have r0 := cell_regrown (keep_cell S.out.bel (hcell3 m (by have := HL.out.1; omega)))
                  rw [HUm.out] at r0
                  have r1 := cell_regrown (keep_cell S.out.bel (hcell3 p (by have := HL.out.1; omega)))
                  rw [HUp.out] at r1
                  refine treeB_node ?_
                  simp only [opsAt, List.filterMap_cons, List.filterMap_nil, List.getElem?_toArray, List.getElem?_cons_succ, List.getElem?_cons_zero]
                  repeat (first | go_big_quiet_step (fail) | quiet_step (fail))
                  refine wpQuiet_nil ?_
                  refine all_one ?_
                  intro K hK
                  refine loud_op rfl rfl ?_
                  go_simp
                  refine (within_any _ _ _ _).mono ?_
                  rintro e w' ⟨rfl, rfl⟩
                  rw [HG.out]
                  refine hK _ _ (Below.refl _ _) ?_
                  clear hK K p0 p1 p2 p3 r0 r1
                  refine treeB_last ?_
                  simp only [opsAt, List.filterMap_cons, List.filterMap_nil, List.getElem?_toArray, List.getElem?_cons_succ, List.getElem?_cons_zero]
                  repeat (first | go_big_quiet_step (fail) | quiet_step (fail))
                  refine wpQuiet_nil ?_
                  go_wp2_with fail
                  go_roundw
                  case rel => exact ⟨k + 1, by omega, by rw [HN.out], by go_num, Lib.hid S.out.fix.tail⟩
                  case measure => first | (simp [intOf]; done) | (simp [intOf]; omega)
            · obtain rfl : k = t.slp.length := by omega
              have HE2 := Lib.hid (slpB_all t l)
              go_wp2_with fail
              go_ret2
              exact ⟨by rw [HE.out, HE2.out]; rfl, S.out.bel⟩
    · have hlw : (l.length : Int) = t.wells := by simpa using hq
      cases ha : l.all trOwn
      · have hbb : baseB t l = false := by simp [baseB, ha]
        have HBB := Lib.hid hbb
        have HA := Lib.hid ha
        clear hbb ha hlw
        go_enter Try.func61, Try.ntmps61
        go_wp2_with fail
        clear q0 q1 q2
        refine (check_any _ t _ ⟨_, _, rfl, HSN.out.below S.out.bel, HSP.out.below S.out.bel⟩).mono ?_
        rintro e w1 ⟨rfl, hb⟩
        rw [HC.out]
        have S := Lib.hid (S.out.call hb)
        clear hb
        have q0 := S.out.get 0 0 rfl rfl
        have q1 := S.out.get 0 1 rfl rfl
        have q2 := S.out.get 0 2 rfl rfl
        go_wp2_with fail
        refine (containsF_any _ l _ (Ints.below HLL.out S.out.bel)).mono ?_
        rintro e w2 ⟨rfl, hb⟩
        rw [HA.out]
        have S := Lib.hid (S.out.call hb)
        clear hb q0 q1 q2
        have q0 := S.out.get 0 0 rfl rfl
        have q1 := S.out.get 0 1 rfl rfl
        have q2 := S.out.get 0 2 rfl rfl
        go_wp2_with fail
        clear q0 q1 q2 hq
        go_loopw [7, 30] (fun u i wr => ∃ k : Nat, k ≤ t.snd.length ∧ u = .bool (sndB t l k) ∧ i = I k ∧ Hid (St w wr wr.heap.size [.box w.heap.size [I t.wells, .slice A1 t.snd.length c1, .slice A2 t.slp.length c2]])) (fun _ i _ => t.snd.length - (intOf i).toNat)
        case atStart => exact ⟨0, by omega, by simp [sndB]; exact HBB.out, rfl, Lib.hid S.out.fix⟩
        case round =>
          clear S
          obtain ⟨k, hk, rfl, rfl, S⟩ := hrel
          have q0 := S.out.get 0 0 rfl rfl
          have q1 := S.out.get 0 1 rfl rfl
          have q2 := S.out.get 0 2 rfl rfl
          by_cases hlt : k < t.snd.length
          · obtain ⟨b1, o1, rfl, hb1, hcell1⟩ := HC1.out (by omega)
            obtain ⟨x0, x1, x2⟩ := hcell1 k hlt
            have x0 := keep_cell S.out.bel x0
            have x1 := keep_cell S.out.bel x1
            have x2 := keep_cell S.out.bel x2
            have hvk := hvl.snd t.snd[k] (List.getElem_mem hlt)
            clear hcell1
            obtain ⟨⟨sw, sl, sh⟩, hs⟩ : ∃ s, t.snd[k] = s := ⟨_, rfl⟩
            have HTK := Lib.hid hs
            rw [hs] at x0 x1 x2 hvk
            clear hs
            dsimp only at x0 x1 x2 hvk
            have hlt0 := S.out.lt 0 rfl
            cases gb : sndB t l k
            · have HG := Lib.hid (show sndB t l (k + 1) = false by rw [sndB_succ hlt, gb]; rfl)

              clear gb
              go_wp2_with fail
              have S := Lib.hid (S.out.alloc [I sw, I sl, I sh] 57)
              clear hlt0 q0 q1 q2 x0 x1 x2
              have hnb : ((false : Bool) = true) = False := by simp
              clear hnb
              refine wp_region_quiet_below (by kernel_rfl) (by kernel_rfl) ?_
              repeat (first | go_big_quiet_step (fail) | quiet_step (fail))
              refine wpQuiet_nil ?_
              rintro w5 ⟨p5, hp5⟩
              have S := Lib.hid (show St w w5 w5.heap.size _ from (by rw [hp5]; exact S.out.call (below_regrown _ _ _)))
              clear hp5
              go_wp2_with fail
              go_roundw
              case rel => exact ⟨k + 1, by omega, by rw [HG.out], by go_num, Lib.hid S.out.fix.tail⟩
              case measure => first | (simp [intOf]; done) | (simp [intOf]; omega)
            · have HL := Lib.hid (sndB_true gb)
              have hl0 : 0 < l.length := by have := HL.out.1; omega
              obtain ⟨b3, o3, rfl, hb3, hcell3⟩ := HC3.out hl0
              obtain ⟨m, rfl⟩ := Int.eq_ofNat_of_zero_le hvk.1
              have hm : (m : Int) < (l.length : Int) := by have := HL.out.1; omega
              obtain ⟨u, hu⟩ : ∃ u, l.getD m 0 = u := ⟨_, rfl⟩
              have HUm := Lib.hid hu
              clear hu
              cases gx : inR u sl sh
              · have HG := Lib.hid gx
                have HN := Lib.hid (show sndB t l (k + 1) = false by rw [sndB_succ hlt, gb, HTK.out, trSnd_eq HUm.out, gx]; rfl)
                clear gx

                clear gb
                go_wp2_with fail
                have S := Lib.hid (S.out.alloc [I (m : Int), I sl, I sh] 57)
                clear hlt0 q0 q1 q2 x0 x1 x2
                refine wp_region_treeB (.node [0, 1, 2, 3, 4, 5, 6, 7, 8, 9, 10] [11] (fun _ => .last [12, 13] [])) 14 (by kernel_rfl) (by kernel_rfl) ?_
                intro KQ hKQ w1 hb
                have S := Lib.hid (S.out.call hb)
                have HB := Lib.hid hb
                clear hb
                have p0 := cell_regrown (S.out.get 0 0 rfl rfl)
                have p1 := cell_regrown (S.out.get 0 1 rfl rfl)
                have p2 := cell_regrown (S.out.get 0 2 rfl rfl)
                have r0 := cell_regrown (keep_cell S.out.bel (hcell3 m (by have := HL.out.1; omega)))
                rw [HUm.out] at r0
                refine treeB_node ?_
                simp only [opsAt, List.filterMap_cons, List.filterMap_nil, List.getElem?_toArray, List.getElem?_cons_succ, List.getElem?_cons_zero]
                repeat (first | go_big_quiet_step (fail) | quiet_step (fail))
                refine wpQuiet_nil ?_
                refine all_one ?_
                intro K hK
                refine loud_op rfl rfl ?_
                go_simp
                refine (within_any _ _ _ _).mono ?_
                rintro e w' ⟨rfl, rfl⟩
                rw [HG.out]
                refine hK _ _ (Below.refl _ _) ?_
                clear hK K p0 p1 p2 r0
                refine treeB_last ?_
                simp only [opsAt, List.filterMap_cons, List.filterMap_nil, List.getElem?_toArray, List.getElem?_cons_succ, List.getElem?_cons_zero]
                repeat (first | go_big_quiet_step (fail) | quiet_step (fail))
                refine wpQuiet_nil ?_
                go_wp2_with fail
                go_roundw
                case rel => exact ⟨k + 1, by omega, by rw [HN.out], by go_num, Lib.hid S.out.fix.tail⟩
                case measure => first | (simp [intOf]; done) | (simp [intOf]; omega)
              · have HG := Lib.hid gx
                have HN := Lib.hid (show sndB t l (k + 1) = true by rw [sndB_succ hlt, gb, HTK.out, trSnd_eq HUm.out, gx]; rfl)
                clear gx

                clear gb
                go_wp2_with fail
                have S := Lib.hid (S.out.alloc [I (m : Int), I sl, I sh] 57)
                clear hlt0 q0 q1 q2 x0 x1 x2
                refine wp_region_treeB (.node [0, 1, 2, 3, 4, 5, 6, 7, 8, 9, 10] [11] (fun _ => .last [12, 13] [])) 14 (by kernel_rfl) (by kernel_rfl) ?_
                intro KQ hKQ w1 hb
                have S := Lib.hid (S.out.call hb)
                have HB := Lib.hid hb
                clear hb
                have p0 := cell_regrown (S.out.get 0 0 rfl rfl)
                have p1 := cell_regrown (S.out.get 0 1 rfl rfl)
                have p2 := cell_regrown (S.out.get 0 2 rfl rfl)
                have r0 := cell_regrown (keep_cell S.out.bel (hcell3 m (by have := HL.out.1; omega)))
                rw [HUm.out] at r0
                refine treeB_node ?_
                simp only [opsAt, List.filterMap_cons, List.filterMap_nil, List.getElem?_toArray, List.getElem?_cons_succ, List.getElem?_cons_zero]
                repeat (first | go_big_quiet_step (fail) | quiet_step (fail))
                refine wpQuiet_nil ?_
                refine all_one ?_
                intro K hK
                refine loud_op rfl rfl ?_
                go_simp
                refine (within_any _ _ _ _).mono ?_
                rintro e w' ⟨rfl, rfl⟩
                rw [HG.out]
                refine hK _ _ (Below.refl _ _) ?_
                clear hK K p0 p1 p2 r0
                refine treeB_last ?_
                simp only [opsAt, List.filterMap_cons, List.filterMap_nil, List.getElem?_toArray, List.getElem?_cons_succ, List.getElem?_cons_zero]
                repeat (first | go_big_quiet_step (fail) | quiet_step (fail))
                refine wpQuiet_nil ?_
                go_wp2_with fail
                go_roundw
                case rel => exact ⟨k + 1, by omega, by rw [HN.out], by go_num, Lib.hid S.out.fix.tail⟩
                case measure => first | (simp [intOf]; done) | (simp [intOf]; omega)
          · obtain rfl : k = t.snd.length := by omega
            go_wp2_with fail
            go_loopw [7, 51] (fun u i wr => ∃ k : Nat, k ≤ t.slp.length ∧ u = .bool (slpB t l k) ∧ i = I k ∧ Hid (St w wr wr.heap.size [.box w.heap.size [I t.wells, .slice A1 t.snd.length c1, .slice A2 t.slp.length c2]])) (fun _ i _ => t.slp.length - (intOf i).toNat)
            case atStart => exact ⟨0, by omega, by simp [slpB], rfl, Lib.hid S.out.fix⟩
            case round =>
              clear S
              obtain ⟨k, hk, rfl, rfl, S⟩ := hrel
              have q0 := S.out.get 0 0 rfl rfl
              have q1 := S.out.get 0 1 rfl rfl
              have q2 := S.out.get 0 2 rfl rfl
              by_cases hlt : k < t.slp.length
              · obtain ⟨b1, o1, rfl, hb1, hcell1⟩ := HC2.out (by omega)
                obtain ⟨x0, x1, x2, x3⟩ := hcell1 k hlt
                have x0 := keep_cell S.out.bel x0
                have x1 := keep_cell S.out.bel x1
                have x2 := keep_cell S.out.bel x2
                have x3 := keep_cell S.out.bel x3
                have hvk := hvl.slp t.slp[k] (List.getElem_mem hlt)
                clear hcell1
                obtain ⟨⟨sa, sb, sl, sh⟩, hs⟩ : ∃ s, t.slp[k] = s := ⟨_, rfl⟩
                have HTK := Lib.hid hs
                rw [hs] at x0 x1 x2 x3 hvk
                clear hs
                dsimp only at x0 x1 x2 x3 hvk
                have hlt0 := S.out.lt 0 rfl
                cases gb : slpB t l k
                · have HG := Lib.hid (show slpB t l (k + 1) = false by rw [slpB_succ hlt, gb]; rfl)

                  clear gb
                  go_wp2_with fail
                  have S := Lib.hid (S.out.alloc [I sa, I sb, I sl, I sh] 47)
                  clear hlt0 q0 q1 q2 x0 x1 x2 x3
                  have hnb : ((false : Bool) = true) = False := by simp
                  clear hnb
                  refine wp_region_quiet_below (by kernel_rfl) (by kernel_rfl) ?_
                  repeat (first | go_big_quiet_step (fail) | quiet_step (fail))
                  refine wpQuiet_nil ?_
                  rintro w5 ⟨p5, hp5⟩
                  have S := Lib.hid (show St w w5 w5.heap.size _ from (by rw [hp5]; exact S.out.call (below_regrown _ _ _)))
                  clear hp5
                  go_wp2_with fail
                  go_roundw
                  case rel => exact ⟨k + 1, by omega, by rw [HG.out], by go_num, Lib.hid S.out.fix.tail⟩
                  case measure => first | (simp [intOf]; done) | (simp [intOf]; omega)
                · have HL := Lib.hid (slpB_true gb)
                  have hl0 : 0 < l.length := by have := HL.out.1; omega
                  obtain ⟨b3, o3, rfl, hb3, hcell3⟩ := HC3.out hl0
                  obtain ⟨m, rfl⟩ := Int.eq_ofNat_of_zero_le hvk.1
                  obtain ⟨p, rfl⟩ := Int.eq_ofNat_of_zero_le hvk.2.2.1
                  have hm : (m : Int) < (l.length : Int) := by have := HL.out.1; omega
                  have hp : (p : Int) < (l.length : Int) := by have := HL.out.1; omega
                  have hbm := ownB HL.out.2 (show m < l.length by omega)
                  have hbp := ownB HL.out.2 (show p < l.length by omega)
                  obtain ⟨u, hu⟩ : ∃ u, l.getD m 0 = u := ⟨_, rfl⟩
                  obtain ⟨z, hz⟩ : ∃ z, l.getD p 0 = z := ⟨_, rfl⟩
                  rw [hu] at hbm
                  rw [hz] at hbp
                  have i1 : IntKind.i64.wrap (z - u) = z - u := IntWalk.i64_in _ (by omega)
                  have HUm := Lib.hid hu
                  have HUp := Lib.hid hz
                  clear hu hz
                  cases gx : inR (z - u) sl sh
                  · have HG := Lib.hid gx
                    have HN := Lib.hid (show slpB t l (k + 1) = false by rw [slpB_succ hlt, gb, HTK.out, trSlp_eq HUm.out HUp.out, gx]; rfl)
                    clear gx

                    clear gb
                    go_wp2_with fail
                    have S := Lib.hid (S.out.alloc [I (m : Int), I (p : Int), I sl, I sh] 47)
                    clear hlt0 q0 q1 q2 x0 x1 x2 x3
                    refine wp_region_treeB (.node [0, 1, 2, 3, 4, 5, 6, 7, 8, 9, 10, 11, 12, 13, 14, 15, 16] [17] (fun _ => .last [18, 19] [])) 20 (by kernel_rfl) (by kernel_rfl) ?_
                    intro KQ hKQ w1 hb
                    have S := Lib.hid (S.out.call hb)
                    have HB := Lib.hid hb
                    clear hb
                    have p0 := cell_regrown (S.out.get 0 0 rfl rfl)
                    have p1 := cell_regrown (S.out.get 0 1 rfl rfl)
                    have p2 := cell_regrown (S.out.get 0 2 rfl rfl)
                    have p3 := cell_regrown (S.out.get 0 3 rfl rfl)
                    have r0 := cell_regrown (keep_cell S.out.bel (hcell3 m (by have := HL.out.1; omega)))
                    rw [HUm.out] at r0
                    have r1 := cell_regrown (keep_cell S.out.bel (hcell3 p (by have := HL.out.1; omega)))
                    rw [HUp.out] at r1
                    refine treeB_node ?_
                    simp only [opsAt, List.filterMap_cons, List.filterMap_nil, List.getElem?_toArray, List.getElem?_cons_succ, List.getElem?_cons_zero]
                    repeat (first | go_big_quiet_step (fail) | quiet_step (fail))
                    refine wpQuiet_nil ?_
                    refine all_one ?_
                    intro K hK
                    refine loud_op rfl rfl ?_
                    go_simp
                    refine (within_any _ _ _ _).mono ?_
                    rintro e w' ⟨rfl, rfl⟩
                    rw [HG.out]
                    refine hK _ _ (Below.refl _ _) ?_
                    clear hK K p0 p1 p2 p3 r0 r1
                    refine treeB_last ?_
                    simp only [opsAt, List.filterMap_cons, List.filterMap_nil, List.getElem?_toArray, List.getElem?_cons_succ, List.getElem?_cons_zero]
                    repeat (first | go_big_quiet_step (fail) | quiet_step (fail))
                    refine wpQuiet_nil ?_
                    go_wp2_with fail
                    go_roundw
                    case rel => exact ⟨k + 1, by omega, by rw [HN.out], by go_num, Lib.hid S.out.fix.tail⟩
                    case measure => first | (simp [intOf]; done) | (simp [intOf]; omega)
                  · have HG := Lib.hid gx
                    have HN := Lib.hid (show slpB t l (k + 1) = true by rw [slpB_succ hlt, gb, HTK.out, trSlp_eq HUm.out HUp.out, gx]; rfl)
                    clear gx

                    clear gb
                    go_wp2_with fail
                    have S := Lib.hid (S.out.alloc [I (m : Int), I (p : Int), I sl, I sh] 47)
                    clear hlt0 q0 q1 q2 x0 x1 x2 x3
                    refine wp_region_treeB (.node [0, 1, 2, 3, 4, 5, 6, 7, 8, 9, 10, 11, 12, 13, 14, 15, 16] [17] (fun _ => .last [18, 19] [])) 20 (by kernel_rfl) (by kernel_rfl) ?_
                    intro KQ hKQ w1 hb
                    have S := Lib.hid (S.out.call hb)
                    have HB := Lib.hid hb
                    clear hb
                    have p0 := cell_regrown (S.out.get 0 0 rfl rfl)
                    have p1 := cell_regrown (S.out.get 0 1 rfl rfl)
                    have p2 := cell_regrown (S.out.get 0 2 rfl rfl)
                    have p3 := cell_regrown (S.out.get 0 3 rfl rfl)
                    have r0 := cell_regrown (keep_cell S.out.bel (hcell3 m (by have := HL.out.1; omega)))
                    rw [HUm.out] at r0
                    have r1 := cell_regrown (keep_cell S.out.bel (hcell3 p (by have := HL.out.1; omega)))
                    rw [HUp.out] at r1
                    refine treeB_node ?_
                    simp only [opsAt, List.filterMap_cons, List.filterMap_nil, List.getElem?_toArray, List.getElem?_cons_succ, List.getElem?_cons_zero]
                    repeat (first | go_big_quiet_step (fail) | quiet_step (fail))
                    refine wpQuiet_nil ?_
                    refine all_one ?_
                    intro K hK
                    refine loud_op rfl rfl ?_
                    go_simp
                    refine (within_any _ _ _ _).mono ?_
                    rintro e w' ⟨rfl, rfl⟩
                    rw [HG.out]
                    refine hK _ _ (Below.refl _ _) ?_
                    clear hK K p0 p1 p2 p3 r0 r1
                    refine treeB_last ?_
                    simp only [opsAt, List.filterMap_cons, List.filterMap_nil, List.getElem?_toArray, List.getElem?_cons_succ, List.getElem?_cons_zero]
                    repeat (first | go_big_quiet_step (fail) | quiet_step (fail))
                    refine wpQuiet_nil ?_
                    go_wp2_with fail
                    go_roundw
                    case rel => exact ⟨k + 1, by omega, by rw [HN.out], by go_num, Lib.hid S.out.fix.tail⟩
                    case measure => first | (simp [intOf]; done) | (simp [intOf]; omega)
              · obtain rfl : k = t.slp.length := by omega
                have HE2 := Lib.hid (slpB_all t l)
                go_wp2_with fail
                go_ret2
                exact ⟨by rw [HE.out, HE2.out]; rfl, S.out.bel⟩
      · have hbb : baseB t l = true := by simp [baseB, ha, hlw]
        have HBB := Lib.hid hbb
        have HA := Lib.hid ha
        clear hbb ha hlw
        go_enter Try.func61, Try.ntmps61
        go_wp2_with fail
        clear q0 q1 q2
        refine (check_any _ t _ ⟨_, _, rfl, HSN.out.below S.out.bel, HSP.out.below S.out.bel⟩).mono ?_
        rintro e w1 ⟨rfl, hb⟩
        rw [HC.out]
        have S := Lib.hid (S.out.call hb)
        clear hb
        have q0 := S.out.get 0 0 rfl rfl
        have q1 := S.out.get 0 1 rfl rfl
        have q2 := S.out.get 0 2 rfl rfl
        go_wp2_with fail
        refine (containsF_any _ l _ (Ints.below HLL.out S.out.bel)).mono ?_
        rintro e w2 ⟨rfl, hb⟩
        rw [HA.out]
        have S := Lib.hid (S.out.call hb)
        clear hb q0 q1 q2
        have q0 := S.out.get 0 0 rfl rfl
        have q1 := S.out.get 0 1 rfl rfl
        have q2 := S.out.get 0 2 rfl rfl
        go_wp2_with fail
        clear q0 q1 q2 hq
        go_loopw [7, 30] (fun u i wr => ∃ k : Nat, k ≤ t.snd.length ∧ u = .bool (sndB t l k) ∧ i = I k ∧ Hid (St w wr wr.heap.size [.box w.heap.size [I t.wells, .slice A1 t.snd.length c1, .slice A2 t.slp.length c2]])) (fun _ i _ => t.snd.length - (intOf i).toNat)
        case atStart => exact ⟨0, by omega, by simp [sndB]; exact HBB.out, rfl, Lib.hid S.out.fix⟩
        case round =>
          clear S
          obtain ⟨k, hk, rfl, rfl, S⟩ := hrel
          have q0 := S.out.get 0 0 rfl rfl
          have q1 := S.out.get 0 1 rfl rfl
          have q2 := S.out.get 0 2 rfl rfl
          by_cases hlt : k < t.snd.length
          · obtain ⟨b1, o1, rfl, hb1, hcell1⟩ := HC1.out (by omega)
            obtain ⟨x0, x1, x2⟩ := hcell1 k hlt
            have x0 := keep_cell S.out.bel x0
            have x1 := keep_cell S.out.bel x1
            have x2 := keep_cell S.out.bel x2
            have hvk := hvl.snd t.snd[k] (List.getElem_mem hlt)
            clear hcell1
            obtain ⟨⟨sw, sl, sh⟩, hs⟩ : ∃ s, t.snd[k] = s := ⟨_, rfl⟩
            have HTK := Lib.hid hs
            rw [hs] at x0 x1 x2 hvk
            clear hs
            dsimp only at x0 x1 x2 hvk
            have hlt0 := S.out.lt 0 rfl
            cases gb : sndB t l k
            · have HG := Lib.hid (show sndB t l (k + 1) = false by rw [sndB_succ hlt, gb]; rfl)

              clear gb
              go_wp2_with fail
              have S := Lib.hid (S.out.alloc [I sw, I sl, I sh] 57)
              clear hlt0 q0 q1 q2 x0 x1 x2
              have hnb : ((false : Bool) = true) = False := by simp
              clear hnb
              refine wp_region_quiet_below (by kernel_rfl) (by kernel_rfl) ?_
              repeat (first | go_big_quiet_step (fail) | quiet_step (fail))
              refine wpQuiet_nil ?_
              rintro w5 ⟨p5, hp5⟩
              have S := Lib.hid (show St w w5 w5.heap.size _ from (by rw [hp5]; exact S.out.call (below_regrown _ _ _)))
              clear hp5
              go_wp2_with fail
              go_roundw
              case rel => exact ⟨k + 1, by omega, by rw [HG.out], by go_num, Lib.hid S.out.fix.tail⟩
              case measure => first | (simp [intOf]; done) | (simp [intOf]; omega)
            · have HL := Lib.hid (sndB_true gb)
              have hl0 : 0 < l.length := by have := HL.out.1; omega
              obtain ⟨b3, o3, rfl, hb3, hcell3⟩ := HC3.out hl0
              obtain ⟨m, rfl⟩ := Int.eq_ofNat_of_zero_le hvk.1
              have hm : (m : Int) < (l.length : Int) := by have := HL.out.1; omega
              obtain ⟨u, hu⟩ : ∃ u, l.getD m 0 = u := ⟨_, rfl⟩
              have HUm := Lib.hid hu
              clear hu
              cases gx : inR u sl sh
              · have HG := Lib.hid gx
                have HN := Lib.hid (show sndB t l (k + 1) = false by rw [sndB_succ hlt, gb, HTK.out, trSnd_eq HUm.out, gx]; rfl)
                clear gx

                clear gb
                go_wp2_with fail
                have S := Lib.hid (S.out.alloc [I (m : Int), I sl, I sh] 57)
                clear hlt0 q0 q1 q2 x0 x1 x2
                refine wp_region_treeB (.node [0, 1, 2, 3, 4, 5, 6, 7, 8, 9, 10] [11] (fun _ => .last [12, 13] [])) 14 (by kernel_rfl) (by kernel_rfl) ?_
                intro KQ hKQ w1 hb
                have S := Lib.hid (S.out.call hb)
                have HB := Lib.hid hb
                clear hb
                have p0 := cell_regrown (S.out.get 0 0 rfl rfl)
                have p1 := cell_regrown (S.out.get 0 1 rfl rfl)
                have p2 := cell_regrown (S.out.get 0 2 rfl rfl)
                have r0 := cell_regrown (keep_cell S.out.bel (hcell3 m (by have := HL.out.1; omega)))
                rw [HUm.out] at r0
                refine treeB_node ?_
                simp only [opsAt, List.filterMap_cons, List.filterMap_nil, List.getElem?_toArray, List.getElem?_cons_succ, List.getElem?_cons_zero]
                repeat (first | go_big_quiet_step (fail) | quiet_step (fail))
                refine wpQuiet_nil ?_
                refine all_one ?_
                intro K hK
                refine loud_op rfl rfl ?_
                go_simp
                refine (within_any _ _ _ _).mono ?_
                rintro e w' ⟨rfl, rfl⟩
                rw [HG.out]
                refine hK _ _ (Below.refl _ _) ?_
                clear hK K p0 p1 p2 r0
                refine treeB_last ?_
                simp only [opsAt, List.filterMap_cons, List.filterMap_nil, List.getElem?_toArray, List.getElem?_cons_succ, List.getElem?_cons_zero]
                repeat (first | go_big_quiet_step (fail) | quiet_step (fail))
                refine wpQuiet_nil ?_
                go_wp2_with fail
                go_roundw
                case rel => exact ⟨k + 1, by omega, by rw [HN.out], by go_num, Lib.hid S.out.fix.tail⟩
                case measure => first | (simp [intOf]; done) | (simp [intOf]; omega)
              · have HG := Lib.hid gx
                have HN := Lib.hid (show sndB t l (k + 1) = true by rw [sndB_succ hlt, gb, HTK.out, trSnd_eq HUm.out, gx]; rfl)
                clear gx

                clear gb
                go_wp2_with fail
                have S := Lib.hid (S.out.alloc [I (m : Int), I sl, I sh] 57)
                clear hlt0 q0 q1 q2 x0 x1 x2
                refine wp_region_treeB (.node [0, 1, 2, 3, 4, 5, 6, 7, 8, 9, 10] [11] (fun _ => .last [12, 13] [])) 14 (by kernel_rfl) (by kernel_rfl) ?_
                intro KQ hKQ w1 hb
                have S := Lib.hid (S.out.call hb)
                have HB := Lib.hid hb
                clear hb
                have p0 := cell_regrown (S.out.get 0 0 rfl rfl)
                have p1 := cell_regrown (S.out.get 0 1 rfl rfl)
                have p2 := cell_regrown (S.out.get 0 2 rfl rfl)
                have r0 := cell_regrown (keep_cell S.out.bel (hcell3 m (by have := HL.out.1; omega)))
                rw [HUm.out] at r0
                refine treeB_node ?_
                simp only [opsAt, List.filterMap_cons, List.filterMap_nil, List.getElem?_toArray, List.getElem?_cons_succ, List.getElem?_cons_zero]
                repeat (first | go_big_quiet_step (fail) | quiet_step (fail))
                refine wpQuiet_nil ?_
                refine all_one ?_
                intro K hK
                refine loud_op rfl rfl ?_
                go_simp
                refine (within_any _ _ _ _).mono ?_
                rintro e w' ⟨rfl, rfl⟩
                rw [HG.out]
                refine hK _ _ (Below.refl _ _) ?_
                clear hK K p0 p1 p2 r0
                refine treeB_last ?_
                simp only [opsAt, List.filterMap_cons, List.filterMap_nil, List.getElem?_toArray, List.getElem?_cons_succ, List.getElem?_cons_zero]
                repeat (first | go_big_quiet_step (fail) | quiet_step (fail))
                refine wpQuiet_nil ?_
                go_wp2_with fail
                go_roundw
                case rel => exact ⟨k + 1, by omega, by rw [HN.out], by go_num, Lib.hid S.out.fix.tail⟩
                case measure => first | (simp [intOf]; done) | (simp [intOf]; omega)
          · obtain rfl : k = t.snd.length := by omega
            go_wp2_with fail
            go_loopw [7, 51] (fun u i wr => ∃ k : Nat, k ≤ t.slp.length ∧ u = .bool (slpB t l k) ∧ i = I k ∧ Hid (St w wr wr.heap.size [.box w.heap.size [I t.wells, .slice A1 t.snd.length c1, .slice A2 t.slp.length c2]])) (fun _ i _ => t.slp.length - (intOf i).toNat)
            case atStart => exact ⟨0, by omega, by simp [slpB], rfl, Lib.hid S.out.fix⟩
            case round =>
              clear S
              obtain ⟨k, hk, rfl, rfl, S⟩ := hrel
              have q0 := S.out.get 0 0 rfl rfl
              have q1 := S.out.get 0 1 rfl rfl
              have q2 := S.out.get 0 2 rfl rfl
              by_cases hlt : k < t.slp.length
              · obtain ⟨b1, o1, rfl, hb1, hcell1⟩ := HC2.out (by omega)
                obtain ⟨x0, x1, x2, x3⟩ := hcell1 k hlt
                have x0 := keep_cell S.out.bel x0
                have x1 := keep_cell S.out.bel x1
                have x2 := keep_cell S.out.bel x2
                have x3 := keep_cell S.out.bel x3
                have hvk := hvl.slp t.slp[k] (List.getElem_mem hlt)
                clear hcell1
                obtain ⟨⟨sa, sb, sl, sh⟩, hs⟩ : ∃ s, t.slp[k] = s := ⟨_, rfl⟩
                have HTK := Lib.hid hs
                rw [hs] at x0 x1 x2 x3 hvk
                clear hs
                dsimp only at x0 x1 x2 x3 hvk
                have hlt0 := S.out.lt 0 rfl
                cases gb : slpB t l k
                · have HG := Lib.hid (show slpB t l (k + 1) = false by rw [slpB_succ hlt, gb]; rfl)

                  clear gb
                  go_wp2_with fail
                  have S := Lib.hid (S.out.alloc [I sa, I sb, I sl, I sh] 47)
                  clear hlt0 q0 q1 q2 x0 x1 x2 x3
                  have hnb : ((false : Bool) = true) = False := by simp
                  clear hnb
                  refine wp_region_quiet_below (by kernel_rfl) (by kernel_rfl) ?_
                  repeat (first | go_big_quiet_step (fail) | quiet_step (fail))
                  refine wpQuiet_nil ?_
                  rintro w5 ⟨p5, hp5⟩
                  have S := Lib.hid (show St w w5 w5.heap.size _ from (by rw [hp5]; exact S.out.call (below_regrown _ _ _)))
                  clear hp5
                  go_wp2_with fail
                  go_roundw
                  case rel => exact ⟨k + 1, by omega, by rw [HG.out], by go_num, Lib.hid S.out.fix.tail⟩
                  case measure => first | (simp [intOf]; done) | (simp [intOf]; omega)
                · have HL := Lib.hid (slpB_true gb)
                  have hl0 : 0 < l.length := by have := HL.out.1; omega
                  obtain ⟨b3, o3, rfl, hb3, hcell3⟩ := HC3.out hl0
                  obtain ⟨m, rfl⟩ := Int.eq_ofNat_of_zero_le hvk.1
                  obtain ⟨p, rfl⟩ := Int.eq_ofNat_of_zero_le hvk.2.2.1
                  have hm : (m : Int) < (l.length : Int) := by have := HL.out.1; omega
                  have hp : (p : Int) < (l.length : Int) := by have := HL.out.1; omega
                  have hbm := ownB HL.out.2 (show m < l.length by omega)
                  have hbp := ownB HL.out.2 (show p < l.length by omega)
                  obtain ⟨u, hu⟩ : ∃ u, l.getD m 0 = u := ⟨_, rfl⟩
                  obtain ⟨z, hz⟩ : ∃ z, l.getD p 0 = z := ⟨_, rfl⟩
                  rw [hu] at hbm
                  rw [hz] at hbp
                  have i1 : IntKind.i64.wrap (z - u) = z - u := IntWalk.i64_in _ (by omega)
                  have HUm := Lib.hid hu
                  have HUp := Lib.hid hz
                  clear hu hz
                  cases gx : inR (z - u) sl sh
                  · have HG := Lib.hid gx
                    have HN := Lib.hid (show slpB t l (k + 1) = false by rw [slpB_succ hlt, gb, HTK.out, trSlp_eq HUm.out HUp.out, gx]; rfl)
                    clear gx

                    clear gb
                    go_wp2_with fail
                    have S := Lib.hid (S.out.alloc [I (m : Int), I (p : Int), I sl, I sh] 47)
                    clear hlt0 q0 q1 q2 x0 x1 x2 x3
                    refine wp_region_treeB (.node [0, 1, 2, 3, 4, 5, 6, 7, 8, 9, 10, 11, 12, 13, 14, 15, 16] [17] (fun _ => .last [18, 19] [])) 20 (by kernel_rfl) (by kernel_rfl) ?_
                    intro KQ hKQ w1 hb
                    have S := Lib.hid (S.out.call hb)
                    have HB := Lib.hid hb
                    clear hb
                    have p0 := cell_regrown (S.out.get 0 0 rfl rfl)
                    have p1 := cell_regrown (S.out.get 0 1 rfl rfl)
                    have p2 := cell_regrown (S.out.get 0 2 rfl rfl)
                    have p3 := cell_regrown (S.out.get 0 3 rfl rfl)
                    have r0 := cell_regrown (keep_cell S.out.bel (hcell3 m (by have := HL.out.1; omega)))
                    rw [HUm.out] at r0
                    have r1 := cell_regrown (keep_cell S.out.bel (hcell3 p (by have := HL.out.1; omega)))
                    rw [HUp.out] at r1
                    refine treeB_node ?_
                    simp only [opsAt, List.filterMap_cons, List.filterMap_nil, List.getElem?_toArray, List.getElem?_cons_succ, List.getElem?_cons_zero]
                    repeat (first | go_big_quiet_step (fail) | quiet_step (fail))
                    refine wpQuiet_nil ?_
                    refine all_one ?_
                    intro K hK
                    refine loud_op rfl rfl ?_
                    go_simp
                    refine (within_any _ _ _ _).mono ?_
                    rintro e w' ⟨rfl, rfl⟩
                    rw [HG.out]
                    refine hK _ _ (Below.refl _ _) ?_
                    clear hK K p0 p1 p2 p3 r0 r1
                    refine treeB_last ?_
                    simp only [opsAt, List.filterMap_cons, List.filterMap_nil, List.getElem?_toArray, List.getElem?_cons_succ, List.getElem?_cons_zero]
                    repeat (first | go_big_quiet_step (fail) | quiet_step (fail))
                    refine wpQuiet_nil ?_
                    go_wp2_with fail
                    go_roundw
                    case rel => exact ⟨k + 1, by omega, by rw [HN.out], by go_num, Lib.hid S.out.fix.tail⟩
                    case measure => first | (simp [intOf]; done) | (simp [intOf]; omega)
                  · have HG := Lib.hid gx
                    have HN := Lib.hid (show slpB t l (k + 1) = true by rw [slpB_succ hlt, gb, HTK.out, trSlp_eq HUm.out HUp.out, gx]; rfl)
                    clear gx

                    clear gb
                    go_wp2_with fail
                    have S := Lib.hid (S.out.alloc [I (m : Int), I (p : Int), I sl, I sh] 47)
                    clear hlt0 q0 q1 q2 x0 x1 x2 x3
                    refine wp_region_treeB (.node [0, 1, 2, 3, 4, 5, 6, 7, 8, 9, 10, 11, 12, 13, 14, 15, 16] [17] (fun _ => .last [18, 19] [])) 20 (by kernel_rfl) (by kernel_rfl) ?_
                    intro KQ hKQ w1 hb
                    have S := Lib.hid (S.out.call hb)
                    have HB := Lib.hid hb
                    clear hb
                    have p0 := cell_regrown (S.out.get 0 0 rfl rfl)
                    have p1 := cell_regrown (S.out.get 0 1 rfl rfl)
                    have p2 := cell_regrown (S.out.get 0 2 rfl rfl)
                    have p3 := cell_regrown (S.out.get 0 3 rfl rfl)
                    have r0 := cell_regrown (keep_cell S.out.bel (hcell3 m (by have := HL.out.1; omega)))
                    rw [HUm.out] at r0
                    have r1 := cell_regrown (keep_cell S.out.bel (hcell3 p (by have := HL.out.1; omega)))
                    rw [HUp.out] at r1
                    refine treeB_node ?_
                    simp only [opsAt, List.filterMap_cons, List.filterMap_nil, List.getElem?_toArray, List.getElem?_cons_succ, List.getElem?_cons_zero]
                    repeat (first | go_big_quiet_step (fail) | quiet_step (fail))
                    refine wpQuiet_nil ?_
                    refine all_one ?_
                    intro K hK
                    refine loud_op rfl rfl ?_
                    go_simp
                    refine (within_any _ _ _ _).mono ?_
                    rintro e w' ⟨rfl, rfl⟩
                    rw [HG.out]
                    refine hK _ _ (Below.refl _ _) ?_
                    clear hK K p0 p1 p2 p3 r0 r1
                    refine treeB_last ?_
                    simp only [opsAt, List.filterMap_cons, List.filterMap_nil, List.getElem?_toArray, List.getElem?_cons_succ, List.getElem?_cons_zero]
                    repeat (first | go_big_quiet_step (fail) | quiet_step (fail))
                    refine wpQuiet_nil ?_
                    go_wp2_with fail
                    go_roundw
                    case rel => exact ⟨k + 1, by omega, by rw [HN.out], by go_num, Lib.hid S.out.fix.tail⟩
                    case measure => first | (simp [intOf]; done) | (simp [intOf]; omega)
              · obtain rfl : k = t.slp.length := by omega
                have HE2 := Lib.hid (slpB_all t l)
                go_wp2_with fail
                go_ret2
                exact ⟨by rw [HE.out, HE2.out]; rfl, S.out.bel⟩

end Go.Proofs.Ytplbaijdnpfdgaa
