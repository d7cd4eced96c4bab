/- Walks: the reference's IsTruth, Holds. -/
import Derived.Test.YtldcehhhndlhdaaDoorC14
namespace Go.Proofs.YtldcehhhndlhdaaDoor
open Go.RowKit Go.Sort

def trSnd (l : List Int) (s : Snd) : Bool := inR (l.getD s.well.toNat 0) s.low s.high
def trSlp (l : List Int) (s : Slp) : Bool := inR (l.getD s.b.toNat 0 - l.getD s.a.toNat 0) s.low s.high
def trOwn (n : Int) : Bool := inR n 0 99
def isTrB (t : Twn) (l : List Int) : Bool := decide ((l.length : Int) = t.wells) && l.all trOwn && t.snd.all (trSnd l) && t.slp.all (trSlp l)
theorem isTrB_iff {t : Twn} {l : List Int} : isTrB t l = true ↔ (l.length : Int) = t.wells ∧ Tr t fun w => l.getD w 0 := by
  simp only [isTrB, Bool.and_eq_true, decide_eq_true_eq, List.all_eq_true, trOwn, trSnd, trSlp, inR_iff]
  constructor
  · rintro ⟨⟨⟨h1, h2⟩, h3⟩, h4⟩
    refine ⟨h1, fun w hw => ?_, h3, h4⟩
    have hwl : w < l.length := by omega
    have := h2 l[w] (List.getElem_mem hwl)
    rw [List.getD_eq_getElem?_getD, List.getElem?_eq_getElem hwl]
    exact this
  · rintro ⟨h1, h2, h3, h4⟩
    refine ⟨⟨⟨h1, fun x hx => ?_⟩, h3⟩, h4⟩
    obtain ⟨w, hwl, rfl⟩ := List.getElem_of_mem hx
    have := h2 w (by omega)
    rw [List.getD_eq_getElem?_getD, List.getElem?_eq_getElem hwl] at this
    exact this
theorem trSnd_eq {l : List Int} {m : Nat} {u lo hi : Int} (h : l.getD m 0 = u) : trSnd l ⟨(m : Nat), lo, hi⟩ = inR u lo hi := by unfold trSnd; dsimp only; rw [Int.toNat_natCast, h]
theorem trSlp_eq {l : List Int} {m p : Nat} {u z lo hi : Int} (h : l.getD m 0 = u) (h' : l.getD p 0 = z) : trSlp l ⟨(m : Nat), (p : Nat), lo, hi⟩ = inR (z - u) lo hi := by unfold trSlp; dsimp only; rw [Int.toNat_natCast, Int.toNat_natCast, h, h']
theorem all_snoc {α : Type} (p : α → Bool) (l : List α) (k : Nat) (h : k < l.length) : (l.take (k + 1)).all p = ((l.take k).all p && p l[k]) := by
  rw [List.take_succ_eq_append_getElem h, List.all_append]; simp
theorem all_not {α : Type} (p : α → Bool) (l : List α) (k : Nat) (h : k < l.length) (hb : p l[k] = false) : l.all p = false := by
  rw [List.all_eq_false]; exact ⟨_, List.getElem_mem h, by simp [hb]⟩
/-- A list of numbers reads, a number at a time. -/
theorem Ints.at_get {w : World} {v : Value} {l : List Int} (h : Ints w v l) {A : Option Addr} {m c : Nat} (hv : v = .slice A m c) : m = l.length ∧ (0 < l.length → ∃ b o, A = some ⟨b, o, none⟩ ∧ b < w.heap.size ∧ ∀ k : Nat, k < l.length → w.cell? ⟨b, o + k, none⟩ = some (I (l.getD k 0))) := by
  obtain ⟨A', c', rfl, _, _, hc⟩ := h.open_
  injection hv with h1 h2 h3
  subst h1
  subst h2
  refine ⟨rfl, fun hn => ?_⟩
  obtain ⟨b, o, h4, h5, h6⟩ := hc hn
  refine ⟨b, o, h4, h5, fun k hk => ?_⟩
  rw [List.getD_eq_getElem?_getD, List.getElem?_eq_getElem hk]
  exact h6 k hk

theorem ownB {l : List Int} (h : l.all trOwn = true) {m : Nat} (hm : m < l.length) : 0 ≤ l.getD m 0 ∧ l.getD m 0 ≤ 99 := by
  have := List.all_eq_true.1 h l[m] (List.getElem_mem hm)
  rw [List.getD_eq_getElem?_getD, List.getElem?_eq_getElem hm]
  exact inR_iff.1 this

set_option maxRecDepth 20000 in
set_option maxHeartbeats 8000000 in
theorem isTruth_any (v lv : Value) (t : Twn) (l : List Int) (w : World) (hv : TwnAt w v t) (hl : Ints w lv l) (hvl : Vl t) (hlen : l.length ≤ 1000) (hl1 : t.snd.length ≤ 1000) (hl2 : t.slp.length ≤ 1000) :
    Calls Tryd.prog 24 #[v, lv] w fun e w' => e = .returned (.bool (isTrB t l)) ∧ Below w.heap.size w w' := by
  obtain ⟨sv, pv, rfl, hs, hp⟩ := hv
  obtain ⟨A1, c1, rfl, hsl1, hsl2, hc1⟩ := hs.open_
  obtain ⟨A2, c2, rfl, hpl1, hpl2, hc2⟩ := hp.open_
  have HSN := Lib.hid hs
  have HSP := Lib.hid hp
  have HC1 := Lib.hid hc1
  have HC2 := Lib.hid hc2
  clear hc1 hc2 hs hp
  obtain ⟨A3, c3, rfl, -, -, -⟩ := id hl.open_
  obtain ⟨-, hc3⟩ := hl.at_get rfl
  have HC3 := Lib.hid hc3
  clear hl hc3
  have S := Lib.hid (show St w (w.alloc (.cells #[I t.wells, .slice A1 t.snd.length c1, .slice A2 t.slp.length c2] 25)) (w.heap.size + 1) [.box w.heap.size [I t.wells, .slice A1 t.snd.length c1, .slice A2 t.slp.length c2]] from (St.init w).alloc [I t.wells, .slice A1 t.snd.length c1, .slice A2 t.slp.length c2] 25)
  have q0 := S.out.get 0 0 rfl rfl
  have q1 := S.out.get 0 1 rfl rfl
  have q2 := S.out.get 0 2 rfl rfl
  cases hq : ((l.length : Int) != t.wells)
  · have hlw : (l.length : Int) = t.wells := by simpa using hq
    have HL := Lib.hid hlw
    go_enter Tryd.func24, Tryd.ntmps24
    go_wp2_with fail
    clear hlw hq
    go_loopw [5] (fun i wr => ∃ k : Nat, k ≤ l.length ∧ i = I k ∧ Hid ((l.take k).all trOwn = true) ∧ Hid (St w wr wr.heap.size [.box w.heap.size [I t.wells, .slice A1 t.snd.length c1, .slice A2 t.slp.length c2]])) (fun i _ => l.length - (intOf i).toNat)
    case atStart => exact ⟨0, by omega, rfl, Lib.hid rfl, Lib.hid S.out.fix⟩
    case round =>
      clear q0 q1 q2 S
      obtain ⟨k, hk, rfl, HA, S⟩ := hrel
      by_cases hlt : k < l.length
      · obtain ⟨b1, o1, rfl, hb1, hcell⟩ := HC3.out (by omega)
        have y0 := keep_cell S.out.bel (hcell k hlt)
        have hsn := all_snoc trOwn l k hlt
        have hgd : l.getD k 0 = l[k] := by rw [List.getD_eq_getElem?_getD, List.getElem?_eq_getElem hlt]; rfl
        rw [hgd] at y0
        have hno := all_not trOwn l k hlt
        clear hcell hgd
        obtain ⟨x, hx⟩ : ∃ x, l[k] = x := ⟨_, rfl⟩
        rw [hx] at y0 hsn hno
        have HSN2 := Lib.hid hsn
        have HNO := Lib.hid hno
        clear hx hsn hno
        go_wp2_with fail
        refine (rWithin_any _ _ _ _).mono ?_
        rintro e w' ⟨rfl, rfl⟩
        clear y0
        cases gx : inR x 0 99
        · have HE := Lib.hid (show isTrB t l = false by simp [isTrB, HNO.out gx])
          clear gx
          go_wp2_with fail
          go_ret
          exact ⟨by rw [HE.out]; rfl, S.out.bel⟩
        · have HG := Lib.hid (show trOwn x = true from gx)
          clear gx
          go_wp2_with fail
          go_roundw
          case rel => exact ⟨k + 1, by omega, by go_num, Lib.hid (by rw [HSN2.out, HA.out, HG.out]; rfl), Lib.hid S.out.fix⟩
          case measure => first | (simp [intOf]; done) | (simp [intOf]; omega)
      · have HA1 := Lib.hid (show l.all trOwn = true by have := HA.out; rw [List.take_of_length_le (by omega)] at this; exact this)
        clear HA
        have q0 := S.out.get 0 0 rfl rfl
        have q1 := S.out.get 0 1 rfl rfl
        have q2 := S.out.get 0 2 rfl rfl
        go_wp2_with fail
        go_loopw [6] (fun i wr => ∃ k : Nat, k ≤ t.snd.length ∧ i = I k ∧ Hid ((t.snd.take k).all (trSnd l) = true) ∧ Hid (St w wr wr.heap.size [.box w.heap.size [I t.wells, .slice A1 t.snd.length c1, .slice A2 t.slp.length c2]])) (fun i _ => t.snd.length - (intOf i).toNat)
        case atStart => exact ⟨0, by omega, rfl, Lib.hid rfl, Lib.hid S.out.fix⟩
        case round =>
          clear q0 q1 q2 S
          obtain ⟨k, hk, rfl, HA, S⟩ := hrel
          have q0 := S.out.get 0 0 rfl rfl
          have q1 := S.out.get 0 1 rfl rfl
          have q2 := S.out.get 0 2 rfl rfl
          by_cases hlt : k < t.snd.length
          · obtain ⟨b1, o1, rfl, hb1, hcell1⟩ := HC1.out (by omega)
            obtain ⟨x0, x1, x2⟩ := hcell1 k hlt
            have x0 := keep_cell S.out.bel x0
            have x1 := keep_cell S.out.bel x1
            have x2 := keep_cell S.out.bel x2
            have hsn := all_snoc (trSnd l) t.snd k hlt
            have hno := all_not (trSnd l) t.snd k hlt
            have hvk := hvl.snd t.snd[k] (List.getElem_mem hlt)
            clear hcell1
            obtain ⟨⟨sw, sl, sh⟩, hs⟩ : ∃ s, t.snd[k] = s := ⟨_, rfl⟩
            rw [hs] at x0 x1 x2 hsn hno hvk
            have HSN2 := Lib.hid hsn
            have HNO := Lib.hid hno
            clear hs hsn hno
            dsimp only at x0 x1 x2 hvk
            have hlt0 := S.out.lt 0 rfl
            go_wp2_with fail
            have S := Lib.hid (S.out.alloc [I sw, I sl, I sh] 31)
            clear hlt0 q0 q1 q2 x0 x1 x2
            have hl0 : 0 < l.length := by have := HL.out; omega
            obtain ⟨b3, o3, rfl, hb3, hcell3⟩ := HC3.out hl0
            obtain ⟨m, rfl⟩ := Int.eq_ofNat_of_zero_le hvk.1
            have hm : (m : Int) < (l.length : Int) := by have := HL.out; omega
            obtain ⟨u, hu⟩ : ∃ u, l.getD m 0 = u := ⟨_, rfl⟩
            have HUm := Lib.hid hu
            clear hu
            cases gx : inR u sl sh
            · have HG := Lib.hid gx
              have HE := Lib.hid (show isTrB t l = false by simp [isTrB, HNO.out ((trSnd_eq HUm.out).trans gx)])
              clear gx
              refine wp_region_treeB (.node [0, 1, 2, 3, 4, 5, 6, 7, 8] [9] (fun _ => .last [10] [])) 11 (by kernel_rfl) (by kernel_rfl) ?_
              intro KQ hKQ w1 hb
              have S := Lib.hid (S.out.call hb)
              have HB := Lib.hid hb
              clear hb
              have p0 := cell_regrown (S.out.get 0 0 rfl rfl)
              have p1 := cell_regrown (S.out.get 0 1 rfl rfl)
              have p2 := cell_regrown (S.out.get 0 2 rfl rfl)
              have r0 := cell_regrown (keep_cell S.out.bel (hcell3 m (by have := HL.out; omega)))
              rw [HUm.out] at r0
              refine treeB_node ?_
              simp only [opsAt, List.filterMap_cons, List.filterMap_nil, List.getElem?_toArray, List.getElem?_cons_succ, List.getElem?_cons_zero]
              repeat (first | go_big_quiet_step (fail) | quiet_step (fail))
              refine wpQuiet_nil ?_
              refine all_one ?_
              intro K hK
              refine loud_op rfl rfl ?_
              go_simp
              refine (rWithin_any _ _ _ _).mono ?_
              rintro e w' ⟨rfl, rfl⟩
              rw [HG.out]
              refine hK _ _ (Below.refl _ _) ?_
              clear hK K p0 p1 p2 r0
              refine treeB_last ?_
              simp only [opsAt, List.filterMap_cons, List.filterMap_nil, List.getElem?_toArray, List.getElem?_cons_succ, List.getElem?_cons_zero]
              repeat (first | go_big_quiet_step (fail) | quiet_step (fail))
              refine wpQuiet_nil ?_
              go_wp2_with fail
              go_ret
              exact ⟨by rw [HE.out]; rfl, S.out.bel⟩
            · have HG := Lib.hid gx
              clear gx
              refine wp_region_treeB (.node [0, 1, 2, 3, 4, 5, 6, 7, 8] [9] (fun _ => .last [10] [])) 11 (by kernel_rfl) (by kernel_rfl) ?_
              intro KQ hKQ w1 hb
              have S := Lib.hid (S.out.call hb)
              have HB := Lib.hid hb
              clear hb
              have p0 := cell_regrown (S.out.get 0 0 rfl rfl)
              have p1 := cell_regrown (S.out.get 0 1 rfl rfl)
              have p2 := cell_regrown (S.out.get 0 2 rfl rfl)
              have r0 := cell_regrown (keep_cell S.out.bel (hcell3 m (by have := HL.out; omega)))
              rw [HUm.out] at r0
              refine treeB_node ?_
              simp only [opsAt, List.filterMap_cons, List.filterMap_nil, List.getElem?_toArray, List.getElem?_cons_succ, List.getElem?_cons_zero]
              repeat (first | go_big_quiet_step (fail) | quiet_step (fail))
              refine wpQuiet_nil ?_
              refine all_one ?_
              intro K hK
              refine loud_op rfl rfl ?_
              go_simp
              refine (rWithin_any _ _ _ _).mono ?_
              rintro e w' ⟨rfl, rfl⟩
              rw [HG.out]
              refine hK _ _ (Below.refl _ _) ?_
              clear hK K p0 p1 p2 r0
              refine treeB_last ?_
              simp only [opsAt, List.filterMap_cons, List.filterMap_nil, List.getElem?_toArray, List.getElem?_cons_succ, List.getElem?_cons_zero]
              repeat (first | go_big_quiet_step (fail) | quiet_step (fail))
              refine wpQuiet_nil ?_
              go_wp2_with fail
              go_roundw
              case rel => exact ⟨k + 1, by omega, by go_num, Lib.hid (by rw [HSN2.out, HA.out, (trSnd_eq HUm.out), HG.out]; rfl), Lib.hid S.out.fix.tail⟩
              case measure => first | (simp [intOf]; done) | (simp [intOf]; omega)
          · have HA2 := Lib.hid (show t.snd.all (trSnd l) = true by have := HA.out; rw [List.take_of_length_le (by omega)] at this; exact this)
            clear HA
            go_wp2_with fail
            go_loopw [8] (fun i wr => ∃ k : Nat, k ≤ t.slp.length ∧ i = I k ∧ Hid ((t.slp.take k).all (trSlp l) = true) ∧ Hid (St w wr wr.heap.size [.box w.heap.size [I t.wells, .slice A1 t.snd.length c1, .slice A2 t.slp.length c2]])) (fun i _ => t.slp.length - (intOf i).toNat)
            case atStart => exact ⟨0, by omega, rfl, Lib.hid rfl, Lib.hid S.out.fix⟩
            case round =>
              clear q0 q1 q2 S
              obtain ⟨k, hk, rfl, HA, S⟩ := hrel
              have q0 := S.out.get 0 0 rfl rfl
              have q1 := S.out.get 0 1 rfl rfl
              have q2 := S.out.get 0 2 rfl rfl
              by_cases hlt : k < t.slp.length
              · obtain ⟨b1, o1, rfl, hb1, hcell1⟩ := HC2.out (by omega)
                obtain ⟨x0, x1, x2, x3⟩ := hcell1 k hlt
                have x0 := keep_cell S.out.bel x0
                have x1 := keep_cell S.out.bel x1
                have x2 := keep_cell S.out.bel x2
                have x3 := keep_cell S.out.bel x3
                have hsn := all_snoc (trSlp l) t.slp k hlt
                have hno := all_not (trSlp l) t.slp k hlt
                have hvk := hvl.slp t.slp[k] (List.getElem_mem hlt)
                clear hcell1
                obtain ⟨⟨sa, sb, sl, sh⟩, hs⟩ : ∃ s, t.slp[k] = s := ⟨_, rfl⟩
                rw [hs] at x0 x1 x2 x3 hsn hno hvk
                have HSN2 := Lib.hid hsn
                have HNO := Lib.hid hno
                clear hs hsn hno
                dsimp only at x0 x1 x2 x3 hvk
                have hlt0 := S.out.lt 0 rfl
                go_wp2_with fail
                have S := Lib.hid (S.out.alloc [I sa, I sb, I sl, I sh] 77)
                clear hlt0 q0 q1 q2 x0 x1 x2 x3
                have hl0 : 0 < l.length := by have := HL.out; omega
                obtain ⟨b3, o3, rfl, hb3, hcell3⟩ := HC3.out hl0
                obtain ⟨m, rfl⟩ := Int.eq_ofNat_of_zero_le hvk.1
                obtain ⟨p, rfl⟩ := Int.eq_ofNat_of_zero_le hvk.2.2.1
                have hm : (m : Int) < (l.length : Int) := by have := HL.out; omega
                have hp : (p : Int) < (l.length : Int) := by have := HL.out; omega
                have hbm := ownB HA1.out (show m < l.length by omega)
                have hbp := ownB HA1.out (show p < l.length by omega)
                obtain ⟨u, hu⟩ : ∃ u, l.getD m 0 = u := ⟨_, rfl⟩
                obtain ⟨z, hz⟩ : ∃ z, l.getD p 0 = z := ⟨_, rfl⟩
                rw [hu] at hbm
                rw [hz] at hbp
                have i1 : IntKind.i64.wrap (z - u) = z - u := IntWalk.i64_in _ (by omega)
                have HUm := Lib.hid hu
                have HUp := Lib.hid hz
                clear hu hz
                cases gx : inR (z - u) sl sh
                · have HG := Lib.hid gx
                  have HE := Lib.hid (show isTrB t l = false by simp [isTrB, HNO.out ((trSlp_eq HUm.out HUp.out).trans gx)])
                  clear gx
                  refine wp_region_treeB (.node [0, 1, 2, 3, 4, 5, 6, 7, 8, 9, 10, 11, 12, 13, 14] [15] (fun _ => .last [16] [])) 17 (by kernel_rfl) (by kernel_rfl) ?_
                  intro KQ hKQ w1 hb
                  have S := Lib.hid (S.out.call hb)
                  have HB := Lib.hid hb
                  clear hb
                  have p0 := cell_regrown (S.out.get 0 0 rfl rfl)
                  have p1 := cell_regrown (S.out.get 0 1 rfl rfl)
                  have p2 := cell_regrown (S.out.get 0 2 rfl rfl)
                  have p3 := cell_regrown (S.out.get 0 3 rfl rfl)
                  have r0 := cell_regrown (keep_cell S.out.bel (hcell3 m (by have := HL.out; omega)))
                  rw [HUm.out] at r0
                  have r1 := cell_regrown (keep_cell S.out.bel (hcell3 p (by have := HL.out; omega)))
                  rw [HUp.out] at r1
                  refine treeB_node ?_
                  simp only [opsAt, List.filterMap_cons, List.filterMap_nil, List.getElem?_toArray, List.getElem?_cons_succ, List.getElem?_cons_zero]
                  repeat (first | go_big_quiet_step (fail) | quiet_step (fail))
                  refine wpQuiet_nil ?_
                  refine all_one ?_
                  intro K hK
                  refine loud_op rfl rfl ?_
                  go_simp
                  refine (rWithin_any _ _ _ _).mono ?_
                  rintro e w' ⟨rfl, rfl⟩
                  rw [HG.out]
                  refine hK _ _ (Below.refl _ _) ?_
                  clear hK K p0 p1 p2 p3 r0 r1
                  refine treeB_last ?_
                  simp only [opsAt, List.filterMap_cons, List.filterMap_nil, List.getElem?_toArray, List.getElem?_cons_succ, List.getElem?_cons_zero]
                  repeat (first | go_big_quiet_step (fail) | quiet_step (fail))
                  refine wpQuiet_nil ?_
                  go_wp2_with fail
                  go_ret
                  exact ⟨by rw [HE.out]; rfl, S.out.bel⟩
                · have HG := Lib.hid gx
                  clear gx
                  refine wp_region_treeB (.node [0, 1, 2, 3, 4, 5, 6, 7, 8, 9, 10, 11, 12, 13, 14] [15] (fun _ => .last [16] [])) 17 (by kernel_rfl) (by kernel_rfl) ?_
                  intro KQ hKQ w1 hb
                  have S := Lib.hid (S.out.call hb)
                  have HB := Lib.hid hb
                  clear hb
                  have p0 := cell_regrown (S.out.get 0 0 rfl rfl)
                  have p1 := cell_regrown (S.out.get 0 1 rfl rfl)
                  have p2 := cell_regrown (S.out.get 0 2 rfl rfl)
                  have p3 := cell_regrown (S.out.get 0 3 rfl rfl)
                  have r0 := cell_regrown (keep_cell S.out.bel (hcell3 m (by have := HL.out; omega)))
                  rw [HUm.out] at r0
                  have r1 := cell_regrown (keep_cell S.out.bel (hcell3 p (by have := HL.out; omega)))
                  rw [HUp.out] at r1
                  refine treeB_node ?_
                  simp only [opsAt, List.filterMap_cons, List.filterMap_nil, List.getElem?_toArray, List.getElem?_cons_succ, List.getElem?_cons_zero]
                  repeat (first | go_big_quiet_step (fail) | quiet_step (fail))
                  refine wpQuiet_nil ?_
                  refine all_one ?_
                  intro K hK
                  refine loud_op rfl rfl ?_
                  go_simp
                  refine (rWithin_any _ _ _ _).mono ?_
                  rintro e w' ⟨rfl, rfl⟩
                  rw [HG.out]
                  refine hK _ _ (Below.refl _ _) ?_
                  clear hK K p0 p1 p2 p3 r0 r1
                  refine treeB_last ?_
                  simp only [opsAt, List.filterMap_cons, List.filterMap_nil, List.getElem?_toArray, List.getElem?_cons_succ, List.getElem?_cons_zero]
                  repeat (first | go_big_quiet_step (fail) | quiet_step (fail))
                  refine wpQuiet_nil ?_
                  go_wp2_with fail
                  go_roundw
                  case rel => exact ⟨k + 1, by omega, by go_num, Lib.hid (by rw [HSN2.out, HA.out, (trSlp_eq HUm.out HUp.out), HG.out]; rfl), Lib.hid S.out.fix.tail⟩
                  case measure => first | (simp [intOf]; done) | (simp [intOf]; omega)
              · have HA3 := Lib.hid (show t.slp.all (trSlp l) = true by have := HA.out; rw [List.take_of_length_le (by omega)] at this; exact this)
                have HE := Lib.hid (show isTrB t l = true by simp only [isTrB, HA1.out, HA2.out, HA3.out, decide_eq_true HL.out]; rfl)
                go_wp2_with fail
                go_ret
                exact ⟨by rw [HE.out]; rfl, S.out.bel⟩
  · have HE := Lib.hid (show isTrB t l = false by simp [isTrB]; intro h; simp [h] at hq)
    go_enter Tryd.func24, Tryd.ntmps24
    go_wp2_with fail
    go_ret
    exact ⟨by rw [HE.out]; rfl, S.out.bel⟩

end Go.Proofs.YtldcehhhndlhdaaDoor
/- Walks: Holds's function value, IndexFunc, ContainsFunc; the reference's Holds; ends of the laws. -/
namespace Go.Proofs.YtldcehhhndlhdaaDoor
open Go.RowKit Go.Sort

def RetIdxF (xs : List Int) (w : World) (e : Ending) (w' : World) : Prop := ∃ r : Int, e = .returned (I r) ∧ (0 ≤ r ↔ xs.all trOwn = false) ∧ Below w.heap.size w w'
def holdsP (t : Twn) (l : List Int) : Bool × Int := if valid t then (isTrB t l, 0) else (false, 10)
def lowL (t : Twn) : List Int := (List.range t.wells.toNat).map fun w => (lvl (closeM (baseM t)) w).low
def highL (t : Twn) : List Int := (List.range t.wells.toNat).map fun w => (lvl (closeM (baseM t)) w).high
theorem lowL_get {t : Twn} {w : Nat} (hw : (w : Int) < t.wells) : (lowL t).getD w 0 = (lvl (closeM (baseM t)) w).low := by
  have : w < t.wells.toNat := by omega
  simp [lowL, List.getD_eq_getElem?_getD, List.getElem?_map, List.getElem?_range this]
theorem highL_get {t : Twn} {w : Nat} (hw : (w : Int) < t.wells) : (highL t).getD w 0 = (lvl (closeM (baseM t)) w).high := by
  have : w < t.wells.toNat := by omega
  simp [highL, List.getD_eq_getElem?_getD, List.getElem?_map, List.getElem?_range this]
theorem lowL_len (t : Twn) : (lowL t).length = t.wells.toNat := by simp [lowL]
theorem highL_len (t : Twn) : (highL t).length = t.wells.toNat := by simp [highL]
/-- What there is, if there is a truth. -/
theorem open_exact {t : Twn} (h : openE t true = 0) : Vl t ∧ Tight t (closeM (baseM t)) ∧ ∃ l, Exact t l ∧ ∀ w : Nat, (w : Int) < t.wells → lvl (closeM (baseM t)) w = spAt l w := by
  obtain ⟨hv, -, hd⟩ := openE_zero h
  obtain ⟨-, ht⟩ := says_closed hv (baseM_says hv) hd
  obtain ⟨x, hx, -⟩ := ht.one 6 6 (.inr rfl) (.inr rfl)
  rcases spansR_cases hv with ⟨l, -, he⟩ | ⟨-, hn⟩
  · exact ⟨hv, ht, l, he, fun w hw => lvl_exact hv ht he hw⟩
  · exact absurd ⟨x, hx⟩ hn
theorem ends_true {t : Twn} (h : openE t true = 0) : isTrB t (lowL t) = true ∧ isTrB t (highL t) = true := by
  obtain ⟨hv, -, l, he, hl⟩ := open_exact h
  have h0 := hv.w0
  refine ⟨isTrB_iff.2 ⟨by rw [lowL_len]; omega, he.low.congr hv fun w hw => ?_⟩, isTrB_iff.2 ⟨by rw [highL_len]; omega, he.high.congr hv fun w hw => ?_⟩⟩
  · rw [lowL_get hw, hl w hw]
  · rw [highL_get hw, hl w hw]
theorem endsP_zero {t : Twn} (h : openE t true = 0) : endsP t Sp.low = (lowL t, 0) ∧ endsP t Sp.high = (highL t, 0) := by
  constructor <;> (unfold endsP; rw [if_pos h]; rfl)
theorem endsP_three {t : Twn} (h : openE t true = 3) (g : Sp → Int) : endsP t g = ([], 3) := by
  unfold endsP; rw [if_neg (by omega), h]
def RetEnds (t : Twn) (w : World) (e : Ending) (w' : World) : Prop := ∃ v1 v2, e = .returned (.tuple #[v1, v2, .bool true, .bool true]) ∧ Ints w' v1 (lowL t) ∧ Ints w' v2 (highL t) ∧ Below w.heap.size w w'

end Go.Proofs.YtldcehhhndlhdaaDoor
/- Walk: levels.Holds. -/
namespace Go.Proofs.YtldcehhhndlhdaaDoor
open Go.RowKit Go.Sort

def baseB (t : Twn) (l : List Int) : Bool := decide ((l.length : Int) = t.wells) && l.all trOwn
def sndB (t : Twn) (l : List Int) (k : Nat) : Bool := baseB t l && (t.snd.take k).all (trSnd l)
def slpB (t : Twn) (l : List Int) (k : Nat) : Bool := sndB t l t.snd.length && (t.slp.take k).all (trSlp l)
theorem slpB_all (t : Twn) (l : List Int) : slpB t l t.slp.length = isTrB t l := by simp [slpB, sndB, baseB, isTrB]
theorem sndB_succ {t : Twn} {l : List Int} {k : Nat} (h : k < t.snd.length) : sndB t l (k + 1) = (sndB t l k && trSnd l t.snd[k]) := by rw [sndB, all_snoc _ _ _ h, ← Bool.and_assoc]; rfl
theorem slpB_succ {t : Twn} {l : List Int} {k : Nat} (h : k < t.slp.length) : slpB t l (k + 1) = (slpB t l k && trSlp l t.slp[k]) := by rw [slpB, all_snoc _ _ _ h, ← Bool.and_assoc]; rfl
theorem baseB_true {t : Twn} {l : List Int} (h : baseB t l = true) : (l.length : Int) = t.wells ∧ l.all trOwn = true := by simpa [baseB] using h
theorem sndB_true {t : Twn} {l : List Int} {k : Nat} (h : sndB t l k = true) : (l.length : Int) = t.wells ∧ l.all trOwn = true := by
  simp only [sndB, Bool.and_eq_true] at h; exact baseB_true h.1
theorem slpB_true {t : Twn} {l : List Int} {k : Nat} (h : slpB t l k = true) : (l.length : Int) = t.wells ∧ l.all trOwn = true := by
  simp only [slpB, Bool.and_eq_true] at h; exact sndB_true h.1

end Go.Proofs.YtldcehhhndlhdaaDoor
/- Walk: Same of two equal towns. -/
namespace Go.Proofs.YtldcehhhndlhdaaDoor
open Go.RowKit Go.Sort

end Go.Proofs.YtldcehhhndlhdaaDoor
/- What is known of one town by another. -/
namespace Go.Proofs.YtldcehhhndlhdaaDoor
open Go.RowKit Go.Sort

/-- What is known of Differ, if there is a truth. -/
theorem differ_zero {t : Twn} (h : openE t true = 0) {a b : Int} (ha : isWell t.wells a = true) (hb : isWell t.wells b = true) : differP t a b = (⟨-at_ (closeM (baseM t)) b.toNat a.toNat, at_ (closeM (baseM t)) a.toNat b.toNat⟩, 0) := by
  unfold differP
  rw [ha, hb, Bool.and_true, h, if_pos rfl]
theorem differ_three {t : Twn} (h : openE t true = 3) {a b : Int} (ha : isWell t.wells a = true) (hb : isWell t.wells b = true) : differP t a b = (⟨0, 0⟩, 3) := by
  unfold differP
  rw [ha, hb, Bool.and_true, h, if_neg (by decide)]
theorem openE_cases {t : Twn} (h : valid t = true) : openE t true = 0 ∨ openE t true = 3 := by
  unfold openE
  rw [if_pos h, if_pos rfl]
  split <;> simp
theorem open_of_truth {t : Twn} (hv : valid t = true) {x : Nat → Int} (hx : Tr t x) : openE t true = 0 := by
  have h := (says_ok (valid_vl hv) (baseM_says (valid_vl hv))).1.2 ⟨x, hx⟩
  unfold openE
  rw [if_pos hv, if_pos rfl, if_pos h]
theorem level_zero {t : Twn} (h : openE t true = 0) {a : Int} (ha : isWell t.wells a = true) : levelP t a = (⟨(lvl (closeM (baseM t)) a.toNat).low, (lvl (closeM (baseM t)) a.toNat).high⟩, 0) := by
  unfold levelP
  rw [ha, h, if_pos rfl]
  simp only [lvl]
theorem higher_zero {t : Twn} {a b : Int} {lo hi : Int} (hd : differP t b a = (⟨lo, hi⟩, 0)) : higherP t a b = (if 0 < lo then 1 else if hi ≤ 0 then 2 else 3, 0) := by
  unfold higherP
  rw [hd]
  simp only [ne_eq, not_true_eq_false, if_false]
  split
  · rfl
  · split <;> rfl
theorem each_level {t : Twn} (h : openE t true = 0) {x : Nat → Int} (hx : Tr t x) {w : Nat} (hw : (w : Int) < t.wells) : (lvl (closeM (baseM t)) w).low ≤ x w ∧ x w ≤ (lvl (closeM (baseM t)) w).high := by
  obtain ⟨hv, -, l, he, hl⟩ := open_exact h
  rw [hl w hw]
  exact he.all x hx w (by rw [he.len]; omega)
theorem each_differ {t : Twn} (h : openE t true = 0) {x : Nat → Int} (hx : Tr t x) {a b : Int} (ha : isWell t.wells a = true) (hb : isWell t.wells b = true) : ∃ lo hi, differP t a b = (⟨lo, hi⟩, 0) ∧ lo ≤ x b.toNat - x a.toNat ∧ x b.toNat - x a.toNat ≤ hi := by
  refine ⟨_, _, differ_zero h ha hb, ?_⟩
  have ht := open_tight h
  have h1 := ht.all x hx _ _ (act_well ha) (act_well hb)
  have h2 := ht.all x hx _ _ (act_well hb) (act_well ha)
  have hv := (openE_zero h).1
  have h6 := hv.w6
  have a1 := isWell_iff.1 ha
  have b1 := isWell_iff.1 hb
  have ea : lift x a.toNat = x a.toNat := by simp [lift, show a.toNat ≠ 6 by omega]
  have eb : lift x b.toNat = x b.toNat := by simp [lift, show b.toNat ≠ 6 by omega]
  rw [ea, eb] at h1 h2
  omega

/-- A town that has no other truths than another one. -/
structure NarT (t o : Twn) : Prop where
  wells : o.wells = t.wells
  tr : ∀ x, Tr o x → Tr t x
theorem nar_addS (t : Twn) (s : Snd) : NarT t (addS t s) := ⟨rfl, fun _ h => (tr_addS.1 h).1⟩
theorem nar_addP (t : Twn) (s : Slp) : NarT t (addP t s) := ⟨rfl, fun _ h => (tr_addP.1 h).1⟩
theorem has_truth {t : Twn} (h : openE t true = 0) : ∃ x, Tr t x := by
  obtain ⟨-, ht, -⟩ := open_exact h
  obtain ⟨x, hx, -⟩ := ht.one 6 6 (.inr rfl) (.inr rfl)
  exact ⟨x, hx⟩
theorem no_truth {t : Twn} (hv : valid t = true) (h : openE t true = 3) : ¬ ∃ x, Tr t x := fun ⟨x, hx⟩ => by have := open_of_truth hv hx; omega
theorem openE_three_of {t : Twn} (hv : valid t = true) (h : ¬ ∃ x, Tr t x) : openE t true = 3 := by
  rcases openE_cases hv with h0 | h0
  · exact absurd (has_truth h0) h
  · exact h0
theorem NarT.one {t o : Twn} (h : NarT t o) (hv : valid t = true) (ho : openE o true = 0) : openE t true = 0 := by
  obtain ⟨x, hx⟩ := has_truth ho
  exact open_of_truth hv (h.tr x hx)
theorem NarT.none {t o : Twn} (h : NarT t o) (hv : valid t = true) (hvo : valid o = true) (ht : openE t true = 3) : openE o true = 3 := by
  rcases openE_cases hvo with h0 | h0
  · have := h.one hv h0; omega
  · exact h0
/-- Both ends of a level are levels of truths. -/
theorem lvl_one {t : Twn} (h : openE t true = 0) {w : Nat} (hw : (w : Int) < t.wells) : (∃ x, Tr t x ∧ x w = (lvl (closeM (baseM t)) w).low) ∧ (∃ x, Tr t x ∧ x w = (lvl (closeM (baseM t)) w).high) := by
  obtain ⟨hv, -, l, he, hl⟩ := open_exact h
  rw [hl w hw]
  exact ⟨⟨_, he.low, rfl⟩, ⟨_, he.high, rfl⟩⟩
theorem NarT.lvl {t o : Twn} (h : NarT t o) (ho : openE o true = 0) (ht : openE t true = 0) {w : Nat} (hw : (w : Int) < t.wells) : (lvl (closeM (baseM t)) w).low ≤ (lvl (closeM (baseM o)) w).low ∧ (lvl (closeM (baseM o)) w).high ≤ (lvl (closeM (baseM t)) w).high := by
  obtain ⟨⟨x, hx, ex⟩, ⟨y, hy, ey⟩⟩ := lvl_one ho (w := w) (by rw [h.wells]; exact hw)
  have h1 := each_level ht (h.tr x hx) hw
  have h2 := each_level ht (h.tr y hy) hw
  omega
/-- Both ends of Differ are differences in truths. -/
theorem differ_one {t : Twn} (h : openE t true = 0) {a b : Int} (ha : isWell t.wells a = true) (hb : isWell t.wells b = true) : ∃ lo hi, differP t a b = (⟨lo, hi⟩, 0) ∧ (∃ x, Tr t x ∧ x b.toNat - x a.toNat = lo) ∧ (∃ x, Tr t x ∧ x b.toNat - x a.toNat = hi) ∧ (∀ x, Tr t x → lo ≤ x b.toNat - x a.toNat ∧ x b.toNat - x a.toNat ≤ hi) := by
  have ht := open_tight h
  obtain ⟨x, hx, ex⟩ := ht.one _ _ (act_well hb) (act_well ha)
  obtain ⟨y, hy, ey⟩ := ht.one _ _ (act_well ha) (act_well hb)
  have hv := (openE_zero h).1
  have h6 := hv.w6
  have a1 := isWell_iff.1 ha
  have b1 := isWell_iff.1 hb
  have ea : ∀ x : Nat → Int, lift x a.toNat = x a.toNat := fun x => by simp [lift, show a.toNat ≠ 6 by omega]
  have eb : ∀ x : Nat → Int, lift x b.toNat = x b.toNat := fun x => by simp [lift, show b.toNat ≠ 6 by omega]
  rw [ea, eb] at ex ey
  refine ⟨_, _, differ_zero h ha hb, ⟨x, hx, by omega⟩, ⟨y, hy, by omega⟩, fun z hz => ?_⟩
  have h1 := ht.all z hz _ _ (act_well ha) (act_well hb)
  have h2 := ht.all z hz _ _ (act_well hb) (act_well ha)
  rw [ea, eb] at h1 h2
  omega
/-- What Differ and Higher say of two wells in both towns. -/
structure Both (dl dh el eh k n : Int) : Prop where
  ins : dl ≤ el ∧ el ≤ eh ∧ eh ≤ dh
  hig : k = 3 ∨ n = k
theorem NarT.both {t o : Twn} (h : NarT t o) (ho : openE o true = 0) (ht : openE t true = 0) {a b : Int} (ha : isWell t.wells a = true) (hb : isWell t.wells b = true) :
    ∃ dl dh el eh k n, differP t a b = (⟨dl, dh⟩, 0) ∧ differP o a b = (⟨el, eh⟩, 0) ∧ higherP t a b = (k, 0) ∧ higherP o a b = (n, 0) ∧ Both dl dh el eh k n := by
  have ha' : isWell o.wells a = true := by rw [h.wells]; exact ha
  have hb' : isWell o.wells b = true := by rw [h.wells]; exact hb
  obtain ⟨dl, dh, h1, -, -, hd⟩ := differ_one ht ha hb
  obtain ⟨el, eh, h2, ⟨x, hx, ex⟩, ⟨y, hy, ey⟩, he⟩ := differ_one ho ha' hb'
  obtain ⟨fl, fh, h3, -, -, hf⟩ := differ_one ht hb ha
  obtain ⟨gl, gh, h4, ⟨u, hu, eu⟩, ⟨v, hv, ev⟩, hg⟩ := differ_one ho hb' ha'
  refine ⟨dl, dh, el, eh, _, _, h1, h2, higher_zero h3, higher_zero h4, ?_, ?_⟩
  · have := hd x (h.tr x hx)
    have := hd y (h.tr y hy)
    have := he x hx
    omega
  · have := hf u (h.tr u hu)
    have := hf v (h.tr v hv)
    have := hg u hu
    split
    · rw [if_pos (by omega)]; exact .inr rfl
    · split
      · rw [if_neg (by omega), if_pos (by omega)]; exact .inr rfl
      · exact .inl rfl
end Go.Proofs.YtldcehhhndlhdaaDoor
