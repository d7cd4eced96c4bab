/- Walk of Free. -/
import Derived.Test.YtldcehhhndlhdaaC12
import Derived.Test.YtldcehhhndlhdaaC10
namespace Go.Proofs.Ytldcehhhndlhdaa
open Go.RowKit Go.Sort

theorem Box2.other {w : World} {B : Nat} {u0 u1 : Value} (h : Box2 w B u0 u1) (q : Addr) (u : Value) (hq : q.block ≠ B) : Box2 (w.setCell q u) B u0 u1 :=
  ⟨by rw [World.cell?_setCell_other _ _ _ _ (fun e => hq (by rw [e]))]; exact h.c0, by rw [World.cell?_setCell_other _ _ _ _ (fun e => hq (by rw [e]))]; exact h.c1, by simpa [go_sem] using h.f0, by simpa [go_sem] using h.f1⟩
theorem Box2.set0 {w : World} {B : Nat} {u0 u1 : Value} (h : Box2 w B u0 u1) (u : Value) : Box2 (w.setCell ⟨B, 0, none⟩ u) B u u1 :=
  ⟨World.cell?_setCell_same _ _ _ h.c0, by rw [World.cell?_setCell_other _ _ _ _ (by simp)]; exact h.c1, by simpa [go_sem] using h.f0, by simpa [go_sem] using h.f1⟩

theorem ptCells_setCost : ∀ (ps : List Pt) (i : Nat) (c : Int), i < ps.length → (ptCells ps).set (i * 3 + 2) (I c) = ptCells (ps.modify i fun x => { x with cost := c })
  | [], i, _, h => absurd h (by simp)
  | p :: ps, 0, c, _ => by simp [ptCells, Pt.cells]
  | p :: ps, i + 1, c, h => by
    have ih := ptCells_setCost ps i c (by simpa using h)
    have e : ptCells (p :: ps) = I p.lo :: I p.hi :: I p.cost :: ptCells ps := rfl
    rw [e, show (i + 1) * 3 + 2 = (i * 3 + 2) + 3 from by omega]
    simp only [List.set_cons_succ, List.modify_succ_cons]
    rw [ih]
    rfl
theorem own_setCost {W : World} {B g cap : Nat} {ps : List Pt} (h : W.ownsRow B 39 3 (.slice (some ⟨g, 0, none⟩) ps.length cap) ps.length (ptCells ps)) (i : Nat) (c : Int) (hi : i < ps.length) :
    (W.setCell ⟨g, i * 3 + 2, none⟩ (I c)).ownsRow B 39 3 (.slice (some ⟨g, 0, none⟩) ps.length cap) (ps.modify i fun x => { x with cost := c }).length (ptCells (ps.modify i fun x => { x with cost := c })) := by
  have := (h.stored (i * 3 + 2) (I c)).1
  rw [ptCells_setCost _ _ _ hi] at this
  simpa using this
theorem setCost_len (d : DLine) (i : Nat) (c : Int) : (setCost d i c).pts.length = d.pts.length ∧ (setCost d i c).odds = d.odds := by simp [setCost]
theorem worst_bd {d : DLine} (h : valid d = true) (f t : Nat) (ht : t ≤ d.odds.length) (hf : f ≤ t) : 0 ≤ worstN d f t ∧ worstN d f t ≤ 140 := by
  have h1 := (valid_spec h).1
  have h2 := tab_small (worst_small h) (t - f) f (by omega)
  unfold worstN
  omega
theorem setCost_valid {d : DLine} (h : valid d = true) (i : Nat) (c : Int) (hc : 0 ≤ c ∧ c ≤ 20) : valid (setCost d i c) = true := by
  unfold valid at h ⊢
  simp only [Bool.and_eq_true, decide_eq_true_eq, Bool.not_eq_true', List.any_eq_false] at h ⊢
  obtain ⟨⟨⟨h1, h2⟩, h3⟩, h4⟩ := h
  refine ⟨⟨⟨h1, h2⟩, by simpa [setCost] using h3⟩, fun x hx => ?_⟩
  obtain ⟨j, hj, rfl⟩ := List.mem_iff_getElem.1 hx
  have hj' : j < d.pts.length := by simpa [setCost] using hj
  have := h4 _ (List.getElem_mem hj')
  simp only [setCost, List.getElem_modify]
  split
  · simp [badPt, inR] at this ⊢
    omega
  · exact this
theorem worstR_ok {d : DLine} (h : valid d = true) (f t : Nat) (hf : f < t) (ht : t ≤ d.odds.length) : worstR d f t = (worstN d f t, 0) := by
  have h1 : someOf d f t = true := by simp [someOf]; omega
  have h2 : askE d true = 0 := by simp [askE, h]
  unfold worstR
  rw [h1, if_pos h2]
  simp only [Int.toNat_natCast]

/-- What stands when a point of the copy has been made free. -/
theorem free_mid (w w1 w2 : World) (g cap : Nat) (d : DLine) (p : Nat) (pv ov : Value) (hb1 : Below w.heap.size w w1) (hlt : w.heap.size < w1.heap.size)
    (hown : w2.ownsRow (w1.alloc (.cells #[pv, ov] 25)).heap.size 39 3 (.slice (some ⟨g, 0, none⟩) d.pts.length cap) d.pts.length (ptCells d.pts))
    (hb2 : Below (w1.alloc (.cells #[pv, ov] 25)).heap.size (w1.alloc (.cells #[pv, ov] 25)) w2) (hg : (w1.alloc (.cells #[pv, ov] 25)).heap.size ≤ g) (hp : p < d.pts.length)
    (B0 : Box2 w1 w.heap.size pv ov) (ho : Ints w ov d.odds) :
    w2.cell? ⟨g, p * 3 + 2, none⟩ = some (I d.pts[p].cost) ∧ w2.frozen? ⟨g, p * 3 + 2, none⟩ = false ∧
    Hid (Below w.heap.size w ((w2.setCell ⟨w1.heap.size, 0, none⟩ (.slice (some ⟨g, 0, none⟩) d.pts.length cap)).setCell ⟨g, p * 3 + 2, none⟩ (I 0)) ∧
      Box2 ((w2.setCell ⟨w1.heap.size, 0, none⟩ (.slice (some ⟨g, 0, none⟩) d.pts.length cap)).setCell ⟨g, p * 3 + 2, none⟩ (I 0)) w.heap.size pv ov ∧
      Box2 ((w2.setCell ⟨w1.heap.size, 0, none⟩ (.slice (some ⟨g, 0, none⟩) d.pts.length cap)).setCell ⟨g, p * 3 + 2, none⟩ (I 0)) w1.heap.size (.slice (some ⟨g, 0, none⟩) d.pts.length cap) ov ∧
      LineAt ((w2.setCell ⟨w1.heap.size, 0, none⟩ (.slice (some ⟨g, 0, none⟩) d.pts.length cap)).setCell ⟨g, p * 3 + 2, none⟩ (I 0)) (.agg #[.slice (some ⟨g, 0, none⟩) d.pts.length cap, ov]) (setCost d p 0)) := by
  have hs : (w1.alloc (.cells #[pv, ov] 25)).heap.size = w1.heap.size + 1 := by simp
  have hbA : Below w.heap.size w (w1.alloc (.cells #[pv, ov] 25)) := hb1.alloc (Nat.le_of_lt hlt) _
  have hb : Below w.heap.size w w2 := bto hbA hb2
  have hbW : Below w.heap.size w ((w2.setCell ⟨w1.heap.size, 0, none⟩ (.slice (some ⟨g, 0, none⟩) d.pts.length cap)).setCell ⟨g, p * 3 + 2, none⟩ (I 0)) :=
    (hb.setCell (p := ⟨w1.heap.size, 0, none⟩) (Nat.le_of_lt hlt) _).setCell (p := ⟨g, p * 3 + 2, none⟩) (by show w.heap.size ≤ g; omega) _
  have o1 := own_setCell hown ⟨w1.heap.size, 0, none⟩ (.slice (some ⟨g, 0, none⟩) d.pts.length cap) (by show w1.heap.size < _; omega)
  have o2 := own_setCost o1 p 0 hp
  refine ⟨?_, hown.frozenAt _, hbW, ?_, ?_, ⟨_, _, rfl, ?_, ho.below hbW⟩⟩
  · rw [hown.cellAt (p * 3 + 2) (by omega)]
    exact (ptCells_at _ _ hp).2.2
  · exact ((((B0.old _).keep hb2).other _ _ (by show w1.heap.size ≠ _; omega)).other _ _ (by show g ≠ _; omega))
  · exact (((Box2.new w1 pv ov 25).keep hb2).set0 _).other _ _ (by show g ≠ _; omega)
  · have := Reads.of_own o2
    simpa [Pts, setCost] using this

end Go.Proofs.Ytldcehhhndlhdaa
/- Walks of Freed, point, Example, SameInts. -/
namespace Go.Proofs.Ytldcehhhndlhdaa
open Go.RowKit Go.Sort

set_option maxHeartbeats 400000 in
theorem point_any (a b c : Int) (w : World) : Calls Try.prog 54 #[I a, I b, I c] w fun e w' => e = .returned (.agg #[I a, I b, I c]) ∧ Below w.heap.size w w' := by
  go_enter Try.func54, Try.ntmps54
  go_wp2_with fail
  refine bodyPost_ret (v := .agg #[I a, I b, I c]) (by simp [results, Try.results54, go_sem]) rfl ⟨rfl, ?_⟩
  repeat (first | exact Below.refl _ _ | refine Below.setCell ?_ (by simp) _ | exact (Below.refl _ _).alloc (Nat.le_refl _) _)

def exD : DLine := { pts := [⟨20, 22, 0⟩, ⟨15, 25, 3⟩, ⟨18, 19, 1⟩, ⟨10, 19, 4⟩, ⟨9, 12, 0⟩], odds := [1, 1, 2, 4] }

set_option maxRecDepth 20000 in
set_option maxHeartbeats 1000000 in
theorem example_any (w : World) : Calls Try.prog 31 #[] w fun e w' => ∃ v, e = .returned v ∧ LineAt w' v exD ∧ Below w.heap.size w w' := by
  have hb0 : ∀ x, Below w.heap.size w (w.alloc x) := fun x => (Below.refl _ _).alloc (Nat.le_refl _) _
  have B0 := Box2.new w (.slice none 0 0) (.slice none 0 0) 25
  have HB := Lib.hid (hb0 (.cells #[.slice none 0 0, .slice none 0 0] 25))
  go_enter Try.func31, Try.ntmps31
  go_wp2_with (go_at_call 54; refine (point_any _ _ _ _).mono ?_; rintro e w1 ⟨rfl, hb1⟩; have B0 := B0.keep hb1; obtain ⟨x0, x1, x2, x3⟩ := id B0; have hlt := B0.lt; have HB := Lib.hid (bto HB.out hb1); clear hb1)
  obtain ⟨r1, r2⟩ := res2 x0 x1
  refine bodyPost_ret (v := .agg #[.slice (some ⟨w1.heap.size, 0, none⟩) 5 5, .slice (some ⟨w1.heap.size + 1, 0, none⟩) 4 4]) (by simp [results, Try.results31, go_sem, r1, r2, hlt]) rfl ⟨_, rfl, ?_, ?_⟩
  · obtain ⟨W0, hW0⟩ : ∃ W0 : World, (w1.setCell ⟨w.heap.size, 0, none⟩ (.slice (some ⟨w1.heap.size, 0, none⟩) 5 5)).setCell ⟨w.heap.size, 1, none⟩ (.slice (some ⟨w1.heap.size + 1, 0, none⟩) 4 4) = W0 := ⟨_, rfl⟩
    have hs : W0.heap.size = w1.heap.size := by rw [← hW0]; simp
    rw [hW0]
    refine ⟨_, _, rfl, Reads.below (w := W0.alloc (.cells #[I 20, I 22, I 0, I 15, I 25, I 3, I 18, I 19, I 1, I 10, I 19, I 4, I 9, I 12, I 0] 39)) ⟨rfl, _, _, rfl, by decide, by decide, fun _ => ⟨_, 0, rfl, fun j u hu => ?_⟩⟩ ((Below.refl _ _).alloc (Nat.le_refl _) _), ⟨rfl, _, _, rfl, by decide, by decide, fun _ => ⟨_, 0, rfl, fun j u hu => ?_⟩⟩⟩
    · rw [Nat.zero_add, ← hs]
      exact box_cell W0 _ _ j (by rw [List.getElem?_toArray]; exact hu)
    · rw [Nat.zero_add, ← hs, ← World.size_alloc W0 (.cells #[I 20, I 22, I 0, I 15, I 25, I 3, I 18, I 19, I 1, I 10, I 19, I 4, I 9, I 12, I 0] 39)]
      exact box_cell _ _ _ j (by rw [List.getElem?_toArray]; exact hu)
  · exact (((HB.out.setCell (p := ⟨w.heap.size, 0, none⟩) (by simp) _).setCell (p := ⟨w.heap.size, 1, none⟩) (by simp) _).alloc (by simp; omega) _).alloc (by simp; omega) _

set_option maxHeartbeats 1000000 in
theorem same_any (va vb : Value) (xs ys : List Int) (w : World) (ha : Ints w va xs) (hb : Ints w vb ys) (hlen : xs.length ≤ 1000) (hlen' : ys.length ≤ 1000) :
    Calls Try.prog 32 #[va, vb] w fun e w' => e = .returned (.bool (decide (xs = ys))) ∧ Below w.heap.size w w' := by
  obtain ⟨A, c, rfl, hac, hcm, ha⟩ := ha.open_
  obtain ⟨A', c', rfl, hac', hcm', ha'⟩ := hb.open_
  have HA := Lib.hid ha
  have HA' := Lib.hid ha'
  clear ha ha' hb
  by_cases hl : xs.length = ys.length
  · have hl1 : ((xs.length : Int) != (ys.length : Int)) = false := by simp; omega
    have HL := Lib.hid hl
    clear hl
    go_enter Try.func32, Try.ntmps32
    go_wp2_with fail
    go_loopw [5] (fun i wr => ∃ k : Nat, k ≤ xs.length ∧ i = I k ∧ Hid (xs.take k = ys.take k) ∧ Hid (Below w.heap.size w wr)) (fun i _ => xs.length - (intOf i).toNat)
    case atStart => exact ⟨0, by omega, rfl, Lib.hid (by simp), Lib.hid (Below.refl _ _)⟩
    case round =>
      obtain ⟨k, hk, rfl, hj, hbw⟩ := hrel
      by_cases hlt : k < xs.length
      · have hlt' : k < ys.length := by have := HL.out; omega
        obtain ⟨b, o, rfl, hbl, hcell⟩ := HA.out (by omega)
        obtain ⟨b', o', rfl, hbl', hcell'⟩ := HA'.out (by omega)
        have y0 := cell_regrown (keep_cell hbw.out (hcell k hlt))
        have y1 := cell_regrown (keep_cell hbw.out (hcell' k hlt'))
        have q1 : (k : Int) < (xs.length : Int) := by omega
        have q2 : (k : Int) < (ys.length : Int) := by omega
        clear hcell hcell'
        by_cases he : xs[k] = ys[k]
        · have hq : (xs[k] != ys[k]) = false := by simp [he]
          have HE := Lib.hid (show xs.take (k + 1) = ys.take (k + 1) by rw [List.take_succ_eq_append_getElem hlt, List.take_succ_eq_append_getElem hlt', hj.out, he])
          clear he
          go_wp2_with fail
          refine wp_region_ext (by kernel_rfl) (by kernel_rfl) ?_
          repeat (first | go_big_quiet_step (fail) | quiet_step (fail))
          refine wpQuiet_nil ?_
          clear y0 y1
          intro w1 hb1
          go_wp2_with fail
          go_roundw
          case rel => exact ⟨k + 1, by omega, by go_num, HE, Lib.hid (bto hbw.out hb1)⟩
          case measure => first | (simp [intOf]; done) | (simp [intOf]; omega)
        · have hq : (xs[k] != ys[k]) = true := by simp [he]
          have HE := Lib.hid (show ¬ xs = ys from fun h => he (by subst h; rfl))
          clear he
          go_wp2_with fail
          refine wp_region_ext (by kernel_rfl) (by kernel_rfl) ?_
          repeat (first | go_big_quiet_step (fail) | quiet_step (fail))
          refine wpQuiet_nil ?_
          clear y0 y1
          intro w1 hb1
          go_wp2_with fail
          go_ret
          exact ⟨by rw [decide_eq_false HE.out]; rfl, bto hbw.out hb1⟩
      · obtain rfl : k = xs.length := by omega
        have HE := Lib.hid (show xs = ys by
          have h1 := hj.out
          have h2 := HL.out
          rw [List.take_length, h2, List.take_length] at h1
          exact h1)
        go_wp2_with fail
        go_ret
        exact ⟨by rw [decide_eq_true HE.out]; rfl, hbw.out⟩
  · have hl1 : ((xs.length : Int) != (ys.length : Int)) = true := by simp; omega
    have HE := Lib.hid (show ¬ xs = ys from fun h => hl (by rw [h]))
    clear hl
    go_enter Try.func32, Try.ntmps32
    go_wp2_with fail
    go_ret
    exact ⟨by rw [decide_eq_false HE.out]; rfl, Below.refl _ _⟩
end Go.Proofs.Ytldcehhhndlhdaa
/- Walks of the reference's small words: Within, IsPoint, IsStretch, AreSome, Check, and of Far, ready. -/
namespace Go.Proofs.Ytldcehhhndlhdaa
open Go.RowKit Go.Sort

set_option maxHeartbeats 400000 in
theorem rWithin_any (n lo hi : Int) (w : World) : Calls Try.prog 26 #[I n, I lo, I hi] w fun e w' => e = .returned (.bool (inR n lo hi)) ∧ w' = w := by
  by_cases h1 : lo ≤ n
  · by_cases h2 : n ≤ hi
    · go_enter Try.func26, Try.ntmps26
      go_wp2_with fail
      go_ret
      exact ⟨by simp [inR, h1, h2], rfl⟩
    · go_enter Try.func26, Try.ntmps26
      go_wp2_with fail
      go_ret
      exact ⟨by simp [inR]; omega, rfl⟩
  · go_enter Try.func26, Try.ntmps26
    go_wp2_with fail
    go_ret
    exact ⟨by simp [inR]; omega, rfl⟩
set_option maxHeartbeats 400000 in
theorem rwithin_any (n lo hi : Int) (w : World) : Calls Try.prog 27 #[I n, I lo, I hi] w fun e w' => e = .returned (.bool (inR n lo hi)) ∧ w' = w := by
  go_enter Try.func27, Try.ntmps27
  go_wp2_with (go_at_call 26; refine (rWithin_any _ _ _ _).mono ?_; rintro e w' ⟨rfl, rfl⟩)
  go_ret
  exact ⟨rfl, rfl⟩
set_option maxHeartbeats 400000 in
theorem rIsPt_any (v : Value) (d : DLine) (n : Int) (w : World) (hv : LineAt w v d) (hlen : d.pts.length ≤ 1000) :
    Calls Try.prog 13 #[v, I n] w fun e w' => e = .returned (.bool (isPt d n)) ∧ Below w.heap.size w w' := by
  obtain ⟨pv, ov, rfl, hp, ho⟩ := hv
  obtain ⟨A, c, rfl, _, _, _⟩ := hp.open_
  clear hp ho
  go_enter Try.func13, Try.ntmps13
  go_wp2_with (go_at_call 27; refine (rwithin_any _ _ _ _).mono ?_; rintro e w' ⟨rfl, rfl⟩)
  go_ret
  exact ⟨rfl, (Below.refl _ _).alloc (Nat.le_refl _) _⟩
theorem someOf_ref (d : DLine) (f t : Int) : someOf d f t = (isSt d f && inR t 1 d.odds.length && decide (f < t)) := by
  by_cases h : someOf d f t = true
  · rw [h]
    obtain ⟨h1, h2, h3⟩ := someOf_spec h
    symm
    simp [isSt, inR]
    omega
  · have h0 : someOf d f t = false := by simpa using h
    rw [h0]
    symm
    refine Bool.eq_false_iff.2 fun h' => h ?_
    simp [isSt, inR] at h'
    simp [someOf]
    omega

theorem badPt_ref (p : Pt) : badPt p = (!inR p.lo 0 99 || !inR p.hi p.lo 99 || !inR p.cost 0 20) := by
  unfold badPt inR
  by_cases h1 : 0 ≤ p.hi <;> by_cases h2 : p.hi ≤ 99 <;> by_cases h3 : 0 ≤ p.lo <;> by_cases h4 : p.lo ≤ p.hi <;> by_cases h5 : p.lo ≤ 99 <;> simp [h1, h2, h3, h4, h5] <;> omega
theorem chk_bad {d : DLine} (h : valid d = false) : chk d = 60 := by simp [chk, h]
theorem valid_of {d : DLine} (h1 : d.odds.length ≤ 7) (h2 : d.pts.length = d.odds.length + 1) (h3 : ∀ j (h : j < d.odds.length), badOdds d.odds[j] = false) (h4 : ∀ j (h : j < d.pts.length), badPt d.pts[j] = false) : valid d = true := by
  unfold valid
  simp only [Bool.and_eq_true, decide_eq_true_eq, Bool.not_eq_true', List.any_eq_false]
  refine ⟨⟨⟨h1, fun x hx => ?_⟩, h2⟩, fun x hx => ?_⟩
  · obtain ⟨j, hj, rfl⟩ := List.mem_iff_getElem.1 hx
    simpa using h3 j hj
  · obtain ⟨j, hj, rfl⟩ := List.mem_iff_getElem.1 hx
    simpa using h4 j hj
theorem notvalid_odds {d : DLine} (j : Nat) (h : j < d.odds.length) (hb : badOdds d.odds[j] = true) : valid d = false := by
  refine Bool.eq_false_iff.2 fun hv => ?_
  have := (valid_spec hv).2.2.2 _ (List.getElem_mem h)
  simp [badOdds, inR] at hb
  omega
theorem notvalid_pts {d : DLine} (j : Nat) (h : j < d.pts.length) (hb : badPt d.pts[j] = true) : valid d = false := by
  refine Bool.eq_false_iff.2 fun hv => ?_
  unfold valid at hv
  simp only [Bool.and_eq_true, Bool.not_eq_true', List.any_eq_false] at hv
  exact hv.2 _ (List.getElem_mem h) hb
theorem notvalid_many {d : DLine} (h : 7 < d.odds.length ∨ d.pts.length ≠ d.odds.length + 1) : valid d = false := by
  refine Bool.eq_false_iff.2 fun hv => ?_
  have h1 := (valid_spec hv).1
  have h2 := (valid_spec hv).2.1
  omega

set_option maxRecDepth 20000 in
set_option maxHeartbeats 2000000 in
theorem rCheck_any (v : Value) (d : DLine) (w : World) (hv : LineAt w v d) (hlen : d.odds.length ≤ 1000) (hlen' : d.pts.length ≤ 1000) :
    Calls Try.prog 6 #[v] w fun e w' => e = .returned (I (chk d)) ∧ Below w.heap.size w w' := by
  obtain ⟨pv, ov, rfl, hp, ho⟩ := hv
  obtain ⟨A, c, rfl, hac, hcm, ha⟩ := ho.open_
  obtain ⟨A', c', rfl, hac', hcm', ha'⟩ := hp.open_
  have hb0 : ∀ x, Below w.heap.size w (w.alloc x) := fun x => (Below.refl _ _).alloc (Nat.le_refl _) _
  have HA := Lib.hid ha
  have HA' := Lib.hid ha'
  have B0 := Box2.new w (.slice A' d.pts.length c') (.slice A d.odds.length c) 25
  clear hp ho ha ha'
  by_cases h1 : 7 < d.odds.length
  · have HC := Lib.hid (chk_bad (notvalid_many (.inl h1)))
    clear B0
    go_enter Try.func6, Try.ntmps6
    go_wp2_with fail
    go_ret
    exact ⟨by rw [HC.out]; rfl, hb0 _⟩
  · by_cases h2 : d.pts.length = d.odds.length + 1
    · have H2 := Lib.hid h2
      have h2' : ((d.pts.length : Int) != (d.odds.length : Int) + 1) = false := by simp; omega
      clear h2
      go_enter Try.func6, Try.ntmps6
      obtain ⟨x0, x1, x2, x3⟩ := B0
      go_wp2_with fail
      go_loopw [3] (fun i wr => ∃ k : Nat, k ≤ d.odds.length ∧ i = I k ∧ Hid (∀ j (h : j < d.odds.length), j < k → badOdds d.odds[j] = false) ∧ wr = w.alloc (.cells #[.slice A' d.pts.length c', .slice A d.odds.length c] 25)) (fun i _ => d.odds.length - (intOf i).toNat)
      case atStart => exact ⟨0, by omega, rfl, Lib.hid (fun _ _ h => absurd h (by omega)), rfl⟩
      case round =>
        obtain ⟨k, hk, rfl, hj, rfl⟩ := hrel
        by_cases hlt : k < d.odds.length
        · obtain ⟨b, o, rfl, hbl, hcell⟩ := HA.out (by omega)
          have hcell := hcell k hlt
          have hbx := box_old w (.cells #[.slice A' d.pts.length c', .slice (some ⟨b, o, none⟩) d.odds.length c] 25) hcell
          clear hcell
          cases hb : inR d.odds[k] 1 9
          · have HC := Lib.hid (chk_bad (notvalid_odds k hlt (by simp [badOdds, hb])))
            go_wp2_with (go_at_call 27; refine (rwithin_any _ _ _ _).mono ?_; rintro e w' ⟨rfl, rfl⟩)
            go_ret
            exact ⟨by rw [HC.out]; rfl, hb0 _⟩
          · have HB := Lib.hid (show badOdds d.odds[k] = false by simp [badOdds, hb])
            go_wp2_with (go_at_call 27; refine (rwithin_any _ _ _ _).mono ?_; rintro e w' ⟨rfl, rfl⟩)
            go_roundw
            case rel => exact ⟨k + 1, by omega, by go_num, Lib.hid (fun j h hjk => by
              by_cases e : j = k
              · subst e; exact HB.out
              · exact hj.out j h (by omega)), by trivial⟩
            case measure => first | (simp [intOf]; done) | (simp [intOf]; omega)
        · obtain rfl : k = d.odds.length := by omega
          go_wp2_with fail
          obtain ⟨wo, hwo⟩ : ∃ wo : World, wo = w.alloc (.cells #[.slice A' d.pts.length c', .slice A d.odds.length c] 25) := ⟨_, rfl⟩
          go_loopw [4] (fun i wr => ∃ k : Nat, k ≤ d.pts.length ∧ i = I k ∧ Hid (∀ j (h : j < d.pts.length), j < k → badPt d.pts[j] = false) ∧ Hid (Below wo.heap.size wo wr)) (fun i _ => d.pts.length - (intOf i).toNat)
          case atStart => exact ⟨0, by omega, rfl, Lib.hid (fun _ _ h => absurd h (by omega)), Lib.hid (by rw [hwo]; exact Below.refl _ _)⟩
          case round =>
            obtain ⟨m, hm, rfl, hq, hbw⟩ := hrel
            have B1 := ((Box2.mk x0 x1 x2 x3)).keep (by rw [← hwo]; exact hbw.out)
            have hbt : Below w.heap.size w wr := bto (hb0 _) (by rw [← hwo]; exact hbw.out)
            have HBT := Lib.hid hbt
            clear x0 x1 x2 x3
            obtain ⟨x0, x1, x2, x3⟩ := B1
            by_cases hlt : m < d.pts.length
            · obtain ⟨b, o, rfl, hbl, hcell⟩ := HA'.out (by omega)
              obtain ⟨y0, y1, y2⟩ := hcell m hlt
              have z0 := keep_cell hbt y0
              have z1 := keep_cell hbt y1
              have z2 := keep_cell hbt y2
              have HBD := Lib.hid (badPt_ref d.pts[m])
              clear hcell y0 y1 y2 hbt
              cases hb1 : inR d.pts[m].lo 0 99
              · have HC := Lib.hid (chk_bad (notvalid_pts m hlt (by rw [HBD.out, hb1]; rfl)))
                go_wp2_with (go_at_call 27; refine (rwithin_any _ _ _ _).mono ?_; rintro e w' ⟨rfl, rfl⟩)
                go_ret
                exact ⟨by rw [HC.out]; rfl, HBT.out.alloc HBT.out.size _⟩
              · cases hb2 : inR d.pts[m].hi d.pts[m].lo 99
                · have HC := Lib.hid (chk_bad (notvalid_pts m hlt (by rw [HBD.out, hb1, hb2]; rfl)))
                  go_wp2_with (go_at_call 27; refine (rwithin_any _ _ _ _).mono ?_; rintro e w' ⟨rfl, rfl⟩)
                  go_ret
                  exact ⟨by rw [HC.out]; rfl, HBT.out.alloc HBT.out.size _⟩
                · cases hb3 : inR d.pts[m].cost 0 20
                  · have HC := Lib.hid (chk_bad (notvalid_pts m hlt (by rw [HBD.out, hb1, hb2, hb3]; rfl)))
                    go_wp2_with (go_at_call 27; refine (rwithin_any _ _ _ _).mono ?_; rintro e w' ⟨rfl, rfl⟩)
                    go_ret
                    exact ⟨by rw [HC.out]; rfl, HBT.out.alloc HBT.out.size _⟩
                  · have HB := Lib.hid (show badPt d.pts[m] = false by rw [HBD.out, hb1, hb2, hb3]; rfl)
                    go_wp2_with (go_at_call 27; refine (rwithin_any _ _ _ _).mono ?_; rintro e w' ⟨rfl, rfl⟩)
                    go_roundw
                    case rel => exact ⟨m + 1, by omega, by go_num, Lib.hid (fun j h hjk => by
                      by_cases e : j = m
                      · subst e; exact HB.out
                      · exact hq.out j h (by omega)), Lib.hid (hbw.out.alloc hbw.out.size _)⟩
                    case measure => first | (simp [intOf]; done) | (simp [intOf]; omega)
            · obtain rfl : m = d.pts.length := by omega
              have HC := Lib.hid (show chk d = 0 by
                have := valid_of (by omega) H2.out (fun j h => hj.out j h h) (fun j h => hq.out j h h)
                simp [chk, this])
              go_wp2_with fail
              go_ret
              exact ⟨by rw [HC.out]; rfl, HBT.out⟩
    · have h2' : ((d.pts.length : Int) != (d.odds.length : Int) + 1) = true := by simp; omega
      have HC := Lib.hid (chk_bad (notvalid_many (.inr h2)))
      clear B0 h2
      go_enter Try.func6, Try.ntmps6
      go_wp2_with fail
      go_ret
      exact ⟨by rw [HC.out]; rfl, hb0 _⟩

def farD (d : DLine) : Bool := decide (40 < d.pts.length) || decide (40 < d.odds.length)
theorem far_cast (d : DLine) : (decide (40 < (d.pts.length : Int)) || decide (40 < (d.odds.length : Int))) = farD d := by
  unfold farD
  rw [decide_eq_decide.2 (show 40 < (d.pts.length : Int) ↔ 40 < d.pts.length by omega), decide_eq_decide.2 (show 40 < (d.odds.length : Int) ↔ 40 < d.odds.length by omega)]
set_option maxHeartbeats 400000 in
theorem far_any (v : Value) (d : DLine) (w : World) (hv : LineAt w v d) :
    Calls Try.prog 5 #[v] w fun e w' => e = .returned (.bool (farD d)) ∧ Below w.heap.size w w' := by
  obtain ⟨pv, ov, rfl, hp, ho⟩ := hv
  obtain ⟨A, c, rfl, hac, hcm, ha⟩ := ho.open_
  obtain ⟨A', c', rfl, hac', hcm', ha'⟩ := hp.open_
  have hb0 : ∀ x, Below w.heap.size w (w.alloc x) := fun x => (Below.refl _ _).alloc (Nat.le_refl _) _
  clear hp ho ha ha'
  by_cases h1 : 40 < d.pts.length
  · have HF := Lib.hid (show farD d = true by simp [farD]; omega)
    go_enter Try.func5, Try.ntmps5
    go_wp2_with fail
    go_ret
    exact ⟨by rw [HF.out]; rfl, hb0 _⟩
  · by_cases h2 : 40 < d.odds.length
    · have HF := Lib.hid (far_cast d)
      go_enter Try.func5, Try.ntmps5
      go_wp2_with fail
      go_ret
      exact ⟨by rw [← HF.out]; rfl, hb0 _⟩
    · have HF := Lib.hid (far_cast d)
      go_enter Try.func5, Try.ntmps5
      go_wp2_with fail
      go_ret
      exact ⟨by rw [← HF.out]; rfl, hb0 _⟩
def readyD (d : DLine) : Bool := valid d
theorem far_of_valid {d : DLine} (h : valid d = true) : farD d = false := by
  have h1 := (valid_spec h).1
  have h2 := (valid_spec h).2.1
  simp [farD]; omega
end Go.Proofs.Ytldcehhhndlhdaa
