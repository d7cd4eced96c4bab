/- Walk of Free. -/
import Derived.Test.YtbddaemekgflmaaW15
namespace Go.Proofs.Ytbddaemekgflmaa
open Go.RowKit Go.Sort

theorem Box2.other {w : World} {B : Nat} {u0 u1 : Value} (h : Box2 w B u0 u1) (q : Addr) (u : Value) (hq : q.block ≠ B) : Box2 (w.setCell q u) B u0 u1 :=
  ⟨by rw [World.cell?_setCell_other _ _ _ _ (fun e => hq (by rw [e]))]; exact h.c0, by rw [World.cell?_setCell_other _ _ _ _ (fun e => hq (by rw [e]))]; exact h.c1, by simpa [go_sem] using h.f0, by simpa [go_sem] using h.f1⟩
theorem Box2.set0 {w : World} {B : Nat} {u0 u1 : Value} (h : Box2 w B u0 u1) (u : Value) : Box2 (w.setCell ⟨B, 0, none⟩ u) B u u1 :=
  ⟨World.cell?_setCell_same _ _ _ h.c0, by rw [World.cell?_setCell_other _ _ _ _ (by simp)]; exact h.c1, by simpa [go_sem] using h.f0, by simpa [go_sem] using h.f1⟩

theorem ptCells_setCost : ∀ (ps : List Pt) (i : Nat) (c : Int), i < ps.length → (ptCells ps).set (i * 3 + 2) (I c) = ptCells (ps.modify i fun x => { x with cost := c })
  | [], i, _, h => absurd h (by simp)
  | p :: ps, 0, c, _ => by simp [ptCells, Pt.cells]
  | p :: ps, i + 1, c, h => by
    have ih := ptCells_setCost ps i c (by simpa using h)
    have e : ptCells (p :: ps) = I p.lo :: I p.hi :: I p.cost :: ptCells ps := rfl
    rw [e, show (i + 1) * 3 + 2 = (i * 3 + 2) + 3 from by omega]
    simp only [List.set_cons_succ, List.modify_succ_cons]
    rw [ih]
    rfl
theorem own_setCost {W : World} {B g cap : Nat} {ps : List Pt} (h : W.ownsRow B 36 3 (.slice (some ⟨g, 0, none⟩) ps.length cap) ps.length (ptCells ps)) (i : Nat) (c : Int) (hi : i < ps.length) :
    (W.setCell ⟨g, i * 3 + 2, none⟩ (I c)).ownsRow B 36 3 (.slice (some ⟨g, 0, none⟩) ps.length cap) (ps.modify i fun x => { x with cost := c }).length (ptCells (ps.modify i fun x => { x with cost := c })) := by
  have := (h.stored (i * 3 + 2) (I c)).1
  rw [ptCells_setCost _ _ _ hi] at this
  simpa using this
theorem setCost_len (d : DLine) (i : Nat) (c : Int) : (setCost d i c).pts.length = d.pts.length ∧ (setCost d i c).odds = d.odds := by simp [setCost]
theorem worst_bd {d : DLine} (h : valid d = true) (f t : Nat) (ht : t ≤ d.odds.length) (hf : f ≤ t) : 0 ≤ worstN d f t ∧ worstN d f t ≤ 140 := by
  have h1 := (valid_spec h).1
  have h2 := tab_small (worst_small h) (t - f) f (by omega)
  unfold worstN
  omega
theorem setCost_valid {d : DLine} (h : valid d = true) (i : Nat) (c : Int) (hc : 0 ≤ c ∧ c ≤ 20) : valid (setCost d i c) = true := by
  unfold valid at h ⊢
  simp only [Bool.and_eq_true, decide_eq_true_eq, Bool.not_eq_true', List.any_eq_false] at h ⊢
  obtain ⟨⟨⟨h1, h2⟩, h3⟩, h4⟩ := h
  refine ⟨⟨⟨h1, h2⟩, by simpa [setCost] using h3⟩, fun x hx => ?_⟩
  obtain ⟨j, hj, rfl⟩ := List.mem_iff_getElem.1 hx
  have hj' : j < d.pts.length := by simpa [setCost] using hj
  have := h4 _ (List.getElem_mem hj')
  simp only [setCost, List.getElem_modify]
  split
  · simp [badPt, inR] at this ⊢
    omega
  · exact this
theorem worstR_ok {d : DLine} (h : valid d = true) (f t : Nat) (hf : f < t) (ht : t ≤ d.odds.length) : worstR d f t = (worstN d f t, 0) := by
  have h1 : someOf d f t = true := by simp [someOf]; omega
  have h2 : askE d true = 0 := by simp [askE, h]
  unfold worstR
  rw [h1, if_pos h2]
  simp only [Int.toNat_natCast]

theorem own_shape_pos {w : World} {B e size n : Nat} {v : Value} {xs : List Value} (h : w.ownsRow B e size v n xs) (hn : 0 < n) : ∃ g cap, v = .slice (some ⟨g, 0, none⟩) n cap ∧ B ≤ g ∧ g < w.heap.size := by
  rcases h.2 with ⟨rfl, rfl⟩ | ⟨g, cap, cur, rfl, hb, hh, _⟩
  · omega
  · exact ⟨g, cap, rfl, hb, (Array.getElem?_eq_some_iff.1 hh).1⟩
/-- What stands when a point of the copy has been made free. -/
theorem free_mid (w w1 w2 : World) (g cap : Nat) (d : DLine) (p : Nat) (pv ov : Value) (hb1 : Below w.heap.size w w1) (hlt : w.heap.size < w1.heap.size)
    (hown : w2.ownsRow (w1.alloc (.cells #[pv, ov] 25)).heap.size 36 3 (.slice (some ⟨g, 0, none⟩) d.pts.length cap) d.pts.length (ptCells d.pts))
    (hb2 : Below (w1.alloc (.cells #[pv, ov] 25)).heap.size (w1.alloc (.cells #[pv, ov] 25)) w2) (hg : (w1.alloc (.cells #[pv, ov] 25)).heap.size ≤ g) (hp : p < d.pts.length)
    (B0 : Box2 w1 w.heap.size pv ov) (ho : Ints w ov d.odds) :
    w2.cell? ⟨g, p * 3 + 2, none⟩ = some (I d.pts[p].cost) ∧ w2.frozen? ⟨g, p * 3 + 2, none⟩ = false ∧
    Hid (Below w.heap.size w ((w2.setCell ⟨w1.heap.size, 0, none⟩ (.slice (some ⟨g, 0, none⟩) d.pts.length cap)).setCell ⟨g, p * 3 + 2, none⟩ (I 0)) ∧
      Box2 ((w2.setCell ⟨w1.heap.size, 0, none⟩ (.slice (some ⟨g, 0, none⟩) d.pts.length cap)).setCell ⟨g, p * 3 + 2, none⟩ (I 0)) w.heap.size pv ov ∧
      Box2 ((w2.setCell ⟨w1.heap.size, 0, none⟩ (.slice (some ⟨g, 0, none⟩) d.pts.length cap)).setCell ⟨g, p * 3 + 2, none⟩ (I 0)) w1.heap.size (.slice (some ⟨g, 0, none⟩) d.pts.length cap) ov ∧
      LineAt ((w2.setCell ⟨w1.heap.size, 0, none⟩ (.slice (some ⟨g, 0, none⟩) d.pts.length cap)).setCell ⟨g, p * 3 + 2, none⟩ (I 0)) (.agg #[.slice (some ⟨g, 0, none⟩) d.pts.length cap, ov]) (setCost d p 0)) := by
  have hs : (w1.alloc (.cells #[pv, ov] 25)).heap.size = w1.heap.size + 1 := by simp
  have hbA : Below w.heap.size w (w1.alloc (.cells #[pv, ov] 25)) := hb1.alloc (Nat.le_of_lt hlt) _
  have hb : Below w.heap.size w w2 := bto hbA hb2
  have hbW : Below w.heap.size w ((w2.setCell ⟨w1.heap.size, 0, none⟩ (.slice (some ⟨g, 0, none⟩) d.pts.length cap)).setCell ⟨g, p * 3 + 2, none⟩ (I 0)) :=
    (hb.setCell (p := ⟨w1.heap.size, 0, none⟩) (Nat.le_of_lt hlt) _).setCell (p := ⟨g, p * 3 + 2, none⟩) (by show w.heap.size ≤ g; omega) _
  have o1 := own_setCell hown ⟨w1.heap.size, 0, none⟩ (.slice (some ⟨g, 0, none⟩) d.pts.length cap) (by show w1.heap.size < _; omega)
  have o2 := own_setCost o1 p 0 hp
  refine ⟨?_, hown.frozenAt _, hbW, ?_, ?_, ⟨_, _, rfl, ?_, ho.below hbW⟩⟩
  · rw [hown.cellAt (p * 3 + 2) (by omega)]
    exact (ptCells_at _ _ hp).2.2
  · exact ((((B0.old _).keep hb2).other _ _ (by show w1.heap.size ≠ _; omega)).other _ _ (by show g ≠ _; omega))
  · exact (((Box2.new w1 pv ov 25).keep hb2).set0 _).other _ _ (by show g ≠ _; omega)
  · have := Reads.of_own o2
    simpa [Pts, setCost] using this

set_option maxRecDepth 20000 in
set_option maxHeartbeats 2000000 in
theorem free_any (v : Value) (d : DLine) (p : Int) (w : World) (hv : LineAt w v d) (hlen : d.odds.length ≤ 1000) (hlen' : d.pts.length ≤ 1000) :
    Calls Try.prog 22 #[v, I p] w fun e w' => e = .returned (.tuple #[I (freeR d p).1, I (freeR d p).2]) ∧ Below w.heap.size w w' := by
  have HV := Lib.hid hv
  obtain ⟨pv, ov, rfl, hp, ho⟩ := hv
  obtain ⟨A, c, rfl, hac, hcm, _⟩ := ho.open_
  obtain ⟨A', c', rfl, hac', hcm', _⟩ := hp.open_
  have hb0 : ∀ x, Below w.heap.size w (w.alloc x) := fun x => (Below.refl _ _).alloc (Nat.le_refl _) _
  have HP := Lib.hid hp
  have HO := Lib.hid ho
  have B0 := Box2.new w (.slice A' d.pts.length c') (.slice A d.odds.length c) 25
  clear hp ho
  have k0 := cell_regrown (box_cell w #[.slice A' d.pts.length c', .slice A d.odds.length c] 25 0 rfl)
  have k1 := cell_regrown (box_cell w #[.slice A' d.pts.length c', .slice A d.odds.length c] 25 1 rfl)
  have c1 := ext_call (w := w.alloc (.cells #[.slice A' d.pts.length c', .slice A d.odds.length c] 25)) fun W hW => isPt_any _ d p W (HV.out.below (bto (hb0 _) hW)) hlen'
  have c2 := ext_call (w := w.alloc (.cells #[.slice A' d.pts.length c', .slice A d.odds.length c] 25)) fun W hW => ask_any _ d (isPt d p) W (HV.out.below (bto (hb0 _) hW)) hlen
  by_cases h0 : askE d (isPt d p) = 0
  · obtain ⟨hvd, hso⟩ := askE_ok h0
    obtain ⟨hp0, hp1⟩ := isPt_spec hso
    rw [h0] at c2
    obtain ⟨p, rfl⟩ := Int.eq_ofNat_of_zero_le hp0
    obtain ⟨hn7, -, -⟩ := valid_spec hvd
    by_cases hz : d.odds.length = 0
    · have hR : freeR d p = (0, 3) := by unfold freeR; rw [if_pos h0, if_pos hz]
      have HR := Lib.hid hR
      have hz' : ((d.odds.length : Int) == 0) = true := beq_iff_eq.2 (by omega)
      clear hR h0 hso hvd hz
      go_enter Try.func22, Try.ntmps22
      go_wp2_with fail
      refine wp_region_ext (by kernel_rfl) (by kernel_rfl) ?_
      repeat (first | go_big_quiet_step (first | exact c1 _ _ | exact c2 _ _) | quiet_step (first | exact c1 _ _ | exact c2 _ _))
      refine wpQuiet_nil ?_
      clear c1 c2 k0 k1
      intro w1 hb1
      have B0 := B0.keep hb1
      obtain ⟨x0, x1, x2, x3⟩ := B0
      go_wp2_with fail
      go_ret2
      exact ⟨by rw [HR.out]; rfl, bto (hb0 _) hb1⟩
    · have hR : freeR d p = (worstN d 0 d.odds.length - worstN (setCost d p 0) 0 d.odds.length, 0) := by unfold freeR; rw [if_pos h0, if_neg hz]; simp only [Int.toNat_natCast]
      have HR := Lib.hid hR
      have hz' : ((d.odds.length : Int) == 0) = false := beq_eq_false_iff_ne.2 (by omega)
      have hv2 := setCost_valid hvd p 0 (by omega)
      obtain ⟨hl2, ho2⟩ := setCost_len d p 0
      have hw1 : worstR d 0 (d.odds.length : Int) = (worstN d 0 d.odds.length, 0) := worstR_ok hvd 0 d.odds.length (by omega) (Nat.le_refl _)
      have hw2 : worstR (setCost d p 0) 0 (d.odds.length : Int) = (worstN (setCost d p 0) 0 d.odds.length, 0) := worstR_ok hv2 0 d.odds.length (by omega) (by rw [ho2]; exact Nat.le_refl _)
      have bd1 := worst_bd hvd 0 d.odds.length (Nat.le_refl _) (by omega)
      have bd2 := worst_bd hv2 0 d.odds.length (by rw [ho2]; exact Nat.le_refl _) (by omega)
      have HW1 := Lib.hid hw1
      have HW2 := Lib.hid hw2
      have HL := Lib.hid (And.intro hl2 ho2)
      have hpl : p < d.pts.length := by omega
      clear hR h0 hso hvd hz hw1 hw2 hl2 ho2 hv2
      go_enter Try.func22, Try.ntmps22
      go_wp2_with fail
      refine wp_region_ext (by kernel_rfl) (by kernel_rfl) ?_
      repeat (first | go_big_quiet_step (first | exact c1 _ _ | exact c2 _ _) | quiet_step (first | exact c1 _ _ | exact c2 _ _))
      refine wpQuiet_nil ?_
      clear c1 c2 k0 k1
      intro w1 hb1
      have B1 := B0.keep hb1
      have HB1 := Lib.hid (bto (hb0 (.cells #[.slice A' d.pts.length c', .slice A d.odds.length c] 25)) hb1)
      have hw1s : w.heap.size < w1.heap.size := B1.lt
      clear hb1 B0
      obtain ⟨x0, x1, x2, x3⟩ := B1
      go_wp2_with (first | (go_at_call 63; refine (clone_any _ d.pts _ (Pts.below HP.out (HB1.out.alloc (Nat.le_of_lt hw1s) _)) hlen').mono ?_; rintro e w2 ⟨v', rfl, hown, hb2⟩; obtain ⟨g, cap, rfl, hg1, hg2⟩ := own_shape_pos hown (Nat.lt_of_le_of_lt (Nat.zero_le _) hpl); obtain ⟨hc2, hf2, HF⟩ := free_mid w w1 w2 g cap d p (.slice A' d.pts.length c') _ HB1.out hw1s hown hb2 hg1 hpl (Box2.mk x0 x1 x2 x3) HO.out; have B3 := (((Box2.mk x0 x1 x2 x3).old _).keep hb2); have B4 := (Box2.new w1 (.slice A' d.pts.length c') (.slice A d.odds.length c) 25).keep hb2; clear x0 x1 x2 x3; obtain ⟨x0, x1, x2, x3⟩ := B3; obtain ⟨y0, y1, y2, y3⟩ := B4; clear hown hb2 hg1 hg2) | (go_at_call 20; refine (worst_any _ d _ _ _ (HV.out.below HF.out.1) hlen).mono ?_; rintro e w5 ⟨rfl, hb5⟩; rw [HW1.out]; have HG := Lib.hid (And.intro (bto HF.out.1 hb5) (HF.out.2.2.2.below hb5)); have B5 := HF.out.2.1.keep hb5; have B6 := HF.out.2.2.1.keep hb5; clear x0 x1 x2 x3 y0 y1 y2 y3 HF hb5; obtain ⟨x0, x1, x2, x3⟩ := B5; obtain ⟨y0, y1, y2, y3⟩ := B6) | (go_at_call 20; refine (worst_any _ (setCost d p 0) _ _ _ HG.out.2 hlen).mono ?_; rintro e w6 ⟨rfl, hb6⟩; rw [HW2.out]; have HB6 := Lib.hid hb6; clear hb6))
      go_ret2
      exact ⟨by rw [HR.out]; rfl, bto HG.out.1 HB6.out⟩
  · have hR : freeR d p = (0, askE d (isPt d p)) := by unfold freeR; rw [if_neg h0]
    have HR := Lib.hid hR
    have h0' : (askE d (isPt d p) != 0) = true := by simpa using h0
    clear hR h0
    go_enter Try.func22, Try.ntmps22
    go_wp2_with fail
    refine wp_region_ext (by kernel_rfl) (by kernel_rfl) ?_
    repeat (first | go_big_quiet_step (first | exact c1 _ _ | exact c2 _ _) | quiet_step (first | exact c1 _ _ | exact c2 _ _))
    refine wpQuiet_nil ?_
    clear c1 c2 k0 k1
    intro w1 hb1
    go_wp2_with fail
    go_ret2
    exact ⟨by rw [HR.out]; rfl, bto (hb0 _) hb1⟩
end Go.Proofs.Ytbddaemekgflmaa
