/- Walks of the reference's Set and can. -/
import Derived.Test.YtbddaemekgflmaaW36
import Derived.Test.YtbddaemekgflmaaSeg
namespace Go.Proofs.Ytbddaemekgflmaa
open Go.RowKit Go.Sort

theorem ptCells_setFlow : ∀ (ps : List Pt) (i : Nat) (lo hi : Int), i < ps.length → ((ptCells ps).set (i * 3) (I lo)).set (i * 3 + 1) (I hi) = ptCells (ps.modify i fun x => { x with lo := lo, hi := hi })
  | [], i, _, _, h => absurd h (by simp)
  | p :: ps, 0, lo, hi, _ => by simp [ptCells, Pt.cells]
  | p :: ps, i + 1, lo, hi, h => by
    have ih := ptCells_setFlow ps i lo hi (by simpa using h)
    have e : ptCells (p :: ps) = I p.lo :: I p.hi :: I p.cost :: ptCells ps := rfl
    rw [e, show (i + 1) * 3 + 1 = (i * 3 + 1) + 3 from by omega, show (i + 1) * 3 = i * 3 + 3 from by omega]
    simp only [List.set_cons_succ, List.modify_succ_cons]
    rw [ih]
    rfl
theorem OwnAt.flow {w : World} {base g cap : Nat} {ov : Value} {d : DLine} (h : OwnAt w base g cap ov d) (p : Nat) (lo hi : Int) (hp : p < d.pts.length) :
    OwnAt ((w.setCell ⟨g, p * 3, none⟩ (I lo)).setCell ⟨g, p * 3 + 1, none⟩ (I hi)) base g cap ov (setFlow d p lo hi) := by
  have a1 := (h.pts.stored (p * 3) (I lo)).1
  have a2 := (a1.stored (p * 3 + 1) (I hi)).1
  rw [ptCells_setFlow _ _ _ _ hp] at a2
  have n1 := own_ne h.pts h.odds (by decide) (g := g) rfl
  refine ⟨by simpa [setFlow] using a2, ?_⟩
  exact own_setOther (own_setOther h.odds _ _ n1) _ _ n1

set_option maxRecDepth 20000 in
set_option maxHeartbeats 2000000 in
theorem set_any (v : Value) (d : DLine) (p : Nat) (x : Int) (w : World) (hv : LineAt w v d) (hlen : d.odds.length ≤ 1000) (hlen' : d.pts.length ≤ 1000) (hp : p < d.pts.length) :
    Calls Try.prog 86 #[v, I p, I x] w fun e w' => ∃ v', e = .returned v' ∧ OwnLine w' w.heap.size v' (setFlow d p x x) ∧ Below w.heap.size w w' := by
  have HV := Lib.hid hv
  obtain ⟨pv, ov, rfl, _, _⟩ := hv
  have hb0 : ∀ x y, Below w.heap.size w ((w.alloc x).alloc y) := fun x y => ((Below.refl _ _).alloc (Nat.le_refl _) _).alloc (by simp) _
  have B1 := (Box2.new (w.alloc (.cells #[pv, ov] 25)) (.slice none 0 0) (.slice none 0 0) 25).at_ (show _ = w.heap.size + 1 by simp)
  have hpi : (p : Int) < (d.pts.length : Int) := by omega
  go_enter Try.func86, Try.ntmps86
  go_wp2_with (go_at_call 19; refine (copy_any _ d _ (HV.out.below (hb0 _ _)) hlen hlen').mono ?_; rintro e w2 ⟨v', rfl, hown, hb2⟩; obtain ⟨g, cap, A, c, rfl, hg1, hg2, hO⟩ := hown.at_ (Nat.lt_of_le_of_lt (Nat.zero_le _) hp); obtain ⟨u0, u1, u2, hc0, hc1, hc2, hf0, hf1, hf2⟩ := hO.ptAt p hp; have B2 := B1.keep hb2; obtain ⟨x0, x1, x2, x3⟩ := id B2; have hl2 := B2.lt; have HO := Lib.hid hO; have HG := Lib.hid hg1; have HB2 := Lib.hid hb2; have HB := Lib.hid B2; have hgw0 : w.heap.size + 2 ≤ g := (by simpa using hg1); have B3 := (B2.other ⟨g, p * 3, none⟩ (I x) (by show g ≠ _; omega)).other ⟨g, p * 3 + 1, none⟩ (I x) (by show g ≠ _; omega); obtain ⟨z0, z1, z2, z3⟩ := id B3; clear hO hb2 B1 B2 B3 hg1)
  have hs2 : ((w.alloc (.cells #[pv, ov] 25)).alloc (.cells #[.slice none 0 0, .slice none 0 0] 25)).heap.size = w.heap.size + 2 := by simp
  have hgw : w.heap.size + 2 ≤ g := by rw [← hs2]; exact HG.out
  have B3 := (HB.out.other ⟨g, p * 3, none⟩ (I x) (by show g ≠ _; omega)).other ⟨g, p * 3 + 1, none⟩ (I x) (by show g ≠ _; omega)
  obtain ⟨r1, r2⟩ := res2 B3.c0 B3.c1
  refine bodyPost_ret (v := .agg #[.slice (some ⟨g, 0, none⟩) d.pts.length cap, .slice A d.odds.length c]) (by simp [results, Try.results86, go_sem, r1, r2, hl2]) rfl ⟨_, rfl, ?_, ?_⟩
  · have o1 := (((HO.out.flow p x x hp).other ⟨w.heap.size + 1, 0, none⟩ (.slice (some ⟨g, 0, none⟩) d.pts.length cap) (by show w.heap.size + 1 < _; rw [hs2]; omega)).other ⟨w.heap.size + 1, 1, none⟩ (.slice A d.odds.length c) (by show w.heap.size + 1 < _; rw [hs2]; omega)).below ((Below.refl _ _).alloc (Nat.le_refl _) (.cells #[.slice (some ⟨g, 0, none⟩) d.pts.length cap, .slice A d.odds.length c] 25))
    have o2 := o1.line
    rw [(setFlow_len d p x x).1] at o2
    obtain ⟨_, _, e, q1, q2⟩ := o2
    exact ⟨_, _, e, own_base' q1 (by rw [hs2]; omega), own_base' q2 (by rw [hs2]; omega)⟩
  · exact (((((bto (hb0 (.cells #[pv, ov] 25) (.cells #[.slice none 0 0, .slice none 0 0] 25)) HB2.out).setCell (p := ⟨g, p * 3, none⟩) (by show w.heap.size ≤ g; omega) _).setCell (p := ⟨g, p * 3 + 1, none⟩) (by show w.heap.size ≤ g; omega) _).setCell (p := ⟨w.heap.size + 1, 0, none⟩) (by simp) _).setCell (p := ⟨w.heap.size + 1, 1, none⟩) (by simp) _).alloc (by simp; omega) _

set_option maxRecDepth 20000 in
set_option maxHeartbeats 2000000 in
theorem can_any (v : Value) (d : DLine) (p : Nat) (x : Int) (w : World) (hv : LineAt w v d) (hvd : valid d = true) (hp : p < d.pts.length) :
    Calls Try.prog 85 #[v, I p, I x] w fun e w' => e = .returned (.bool (canB d p x)) ∧ Below w.heap.size w w' := by
  have HV := Lib.hid hv
  have hn7 := (valid_spec hvd).1
  have hpn := (valid_spec hvd).2.1
  have hl1 : d.odds.length ≤ 1000 := by omega
  have hl2 : d.pts.length ≤ 1000 := by omega
  obtain ⟨pv, ov, rfl, hpp, ho⟩ := hv
  obtain ⟨A, c, rfl, hac, hcm, ha⟩ := id hpp.open_
  obtain ⟨b, o, rfl, hbl, hcell⟩ := ha (by omega)
  have hb0 : ∀ x, Below w.heap.size w (w.alloc x) := fun x => (Below.refl _ _).alloc (Nat.le_refl _) _
  have B0 := Box2.new w (.slice (some ⟨b, o, none⟩) d.pts.length c) ov 25
  have y0 := box_old w (.cells #[.slice (some ⟨b, o, none⟩) d.pts.length c, ov] 25) (hcell p hp).1
  have y1 := box_old w (.cells #[.slice (some ⟨b, o, none⟩) d.pts.length c, ov] 25) (hcell p hp).2.1
  have hpi : (p : Int) < (d.pts.length : Int) := by omega
  have HE := Lib.hid (show canB d p x = (inR x d.pts[p].lo d.pts[p].hi && oneB (setFlow d p x x)) by
    unfold canB; rw [show d.pts.getD p default = d.pts[p] by simp [List.getD, List.getElem?_eq_getElem hp]])
  have HPT := Lib.hid ((valid_spec hvd).2.2.1 _ (List.getElem_mem hp))
  have HVD := Lib.hid hvd
  clear hcell ha hpp ho hvd hpn hn7
  cases hin : inR x d.pts[p].lo d.pts[p].hi
  · have k0 := cell_regrown B0.c0
    have k1 := cell_regrown y0
    have k2 := cell_regrown y1
    have c1 := ext_call (w := w.alloc (.cells #[.slice (some ⟨b, o, none⟩) d.pts.length c, ov] 25)) fun W _ => rwithin_b x d.pts[p].lo d.pts[p].hi W
    rw [hin] at c1
    have HF := Lib.hid (show canB d p x = false by rw [HE.out, hin]; rfl)
    clear hin
    go_enter Try.func85, Try.ntmps85
    go_wp2_with fail
    refine wp_region_ext (by kernel_rfl) (by kernel_rfl) ?_
    repeat (first | go_big_quiet_step (exact c1 _ _) | quiet_step (exact c1 _ _))
    refine wpQuiet_nil ?_
    clear k0 k1 k2 c1
    intro w1 hb1
    go_wp2_with fail
    go_ret
    exact ⟨by rw [HF.out]; rfl, bto (hb0 _) hb1⟩
  · have HF := Lib.hid (show canB d p x = oneB (setFlow d p x x) by rw [HE.out, hin]; rfl)
    have HV2 := Lib.hid (show valid (setFlow d p x x) = true by
      have h := HPT.out
      simp [inR] at hin
      exact setFlow_valid HVD.out p x x (by omega) (by omega) (by omega))
    have HIN := Lib.hid hin
    have HBW := Lib.hid (hb0 (.cells #[.slice (some ⟨b, o, none⟩) d.pts.length c, ov] 25))
    clear hin
    go_enter Try.func85, Try.ntmps85
    go_wp2_with fail
    refine wp_region_seg [([0, 1, 2, 3, 4, 5, 6, 7, 8, 9, 10, 11, 12, 13, 14], 15), ([16, 17, 18, 19], 20), ([], 21)] [22] [23] 23 (by kernel_rfl) (by kernel_rfl) ?_
    intro KQ hKQ w1 hb
    have B1 := B0.keep hb
    have k0 := cell_regrown B1.c0
    have k0' := cell_regrown B1.c1
    have k1 := cell_regrown (keep_cell hb y0)
    have k2 := cell_regrown (keep_cell hb y1)
    have HB1 := Lib.hid (bto HBW.out hb)
    clear hb y0 y1 B0
    refine seg_next ?_
    simp only [opsAt, List.filterMap_cons, List.filterMap_nil, List.getElem?_toArray, List.getElem?_cons_succ, List.getElem?_cons_zero]
    repeat (first | go_big_quiet_step (fail) | quiet_step (fail))
    refine wpQuiet_nil ?_
    intro K hK
    refine loud_op rfl rfl ?_
    go_simp
    refine (rwithin_any _ _ _ _).mono ?_
    rintro e w2 ⟨rfl, rfl⟩
    rw [HIN.out]
    refine hK _ _ (Below.refl _ _) ?_
    clear hK K
    refine seg_next ?_
    simp only [opsAt, List.filterMap_cons, List.filterMap_nil, List.getElem?_toArray, List.getElem?_cons_succ, List.getElem?_cons_zero]
    repeat (first | go_big_quiet_step (fail) | quiet_step (fail))
    refine wpQuiet_nil ?_
    intro K hK
    refine loud_op rfl rfl ?_
    go_simp
    refine (set_any _ d p x _ (HV.out.below HB1.out) hl1 hl2 hp).mono ?_
    rintro e w3 ⟨v', rfl, hown, hb⟩
    have HB3 := Lib.hid (bto HB1.out hb)
    have HO := Lib.hid hown.line
    refine hK _ _ hb ?_
    clear hK K hb hown k0 k0' k1 k2
    refine seg_next ?_
    simp only [opsAt, List.filterMap_nil]
    refine wpQuiet_nil ?_
    intro K hK
    refine loud_op rfl rfl ?_
    go_simp
    refine (one_any _ (setFlow d p x x) _ HO.out HV2.out).mono ?_
    rintro e w4 ⟨rfl, hb⟩
    have HB4 := Lib.hid (bto HB3.out hb)
    refine hK _ _ hb ?_
    clear hK K hb
    refine seg_last ?_
    simp only [opsAt, List.filterMap_nil, List.filterMap_cons, List.getElem?_toArray, List.getElem?_cons_succ, List.getElem?_cons_zero]
    repeat (first | go_big_quiet_step (fail) | quiet_step (fail))
    refine wpQuiet_nil ?_
    go_wp2_with fail
    go_ret
    exact ⟨by rw [HF.out]; rfl, HB4.out⟩
end Go.Proofs.Ytbddaemekgflmaa
