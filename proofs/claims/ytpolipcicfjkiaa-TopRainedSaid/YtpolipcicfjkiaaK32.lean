/- slices.Clone of days; the ration's closure. Conditions: none. -/
import Derived.Test.YtpolipcicfjkiaaK28
import Derived.Test.YtpolipcicfjkiaaK31
import Derived.Test.YtpolipcicfjkiaaK30
import Derived.Test.YtpolipcicfjkiaaK26
import Derived.Test.YtpolipcicfjkiaaK25
namespace Go.Proofs.Ytpolipcicfjkiaa
open Go.RowKit Go.Sort
open Go.Proofs.Ytpolipcicfjkiaa.Cy (BelowH)

theorem PA.under22 : PA.prog.underlying 22 = some (.slice 59) := by kernel_rfl
theorem PA.info59 : (PA.prog.info? 59).map (fun i => (i.zero, i.size, i.bytes)) = some (some (.agg #[.int .i64 0, .int .i64 0, .int .i64 0]), 3, 24) := by kernel_rfl

set_option maxRecDepth 20000 in
set_option maxHeartbeats 1000000 in
theorem cloneCd_any (v : Value) (ps : List Pt) (w : World) (hv : Pts w v ps) (hlen : ps.length ≤ 1000) :
    Calls PA.prog 53 #[v] w fun e w' => ∃ v', e = .returned v' ∧ w'.ownsRow w.heap.size 59 3 v' ps.length (ptCells ps) ∧ Below w.heap.size w w' := by
  obtain ⟨i0, hi, hz0, hz1, hz2⟩ := info_parts PA.info59
  have h02 : 0 < 3 := by omega
  have h63 : 0 + ps.length ≤ maxLen := by simp only [maxLen]; omega
  have hby : (0 + ps.length) * 24 ≤ 140737488355328 := by omega
  have HV := Lib.hid hv
  have hm0 : (0 : Nat) ≤ maxLen := by omega
  have hown := World.ownsRow_made (e := 59) (size := 3) w #[] 0 (Nat.le_refl w.heap.size) hm0 rfl
  have hb0 : Below w.heap.size w (w.alloc (.cells #[] 59)) := (Below.refl _ _).alloc (Nat.le_refl _) _
  have hs0 := hb0.size
  obtain ⟨_, A, c, rfl, hmc, hc, hcell⟩ := hv
  rcases A with _ | ad
  · have hp : ps = [] := by
      rcases Nat.eq_zero_or_pos ps.length with h0 | h0
      · exact List.eq_nil_of_length_eq_zero h0
      · obtain ⟨b, o, h, _⟩ := hcell h0
        cases h
    subst hp
    clear hcell
    have hq := fun w => run_eql_slice_nil (P := PA.prog) w 22 59 none 0 c PA.under22
    go_enter PA.func53, Try.ntmps53
    go_wp2_with fail
    go_ret
    exact ⟨_, rfl, World.ownsRow_nil _ _ _ _, Below.refl _ _⟩
  · clear hcell
    have hq := fun w => run_eql_slice_nil (P := PA.prog) w 22 59 (some ad) ps.length c PA.under22
    go_enter PA.func53, Try.ntmps53
    go_wp2_with (at_builtin; refine wpList_append_src _ rfl _ _ 22 rfl w.heap.size 59 i0 (.agg #[.int .i64 0, .int .i64 0, .int .i64 0]) 3 24 PA.under22 hi hz0 hz1 hz2 rfl h02 _ _ _ rfl hown _ _ _ rfl (Reads.below HV.out hb0) (pts_one _) h63 hby hs0 ?_; intro v' w4 hown' hgrow _)
    go_ret
    rw [Nat.zero_add, List.nil_append] at hown'
    exact ⟨_, rfl, hown', hb0.grown hgrow hs0 (fun q hq => (hown.lt q hq).1)⟩

set_option maxHeartbeats 400000 in
theorem least_any (a n m : Int) (bx : Nat) (w : World) (hc : w.cell? ⟨bx, 0, none⟩ = some (I m)) :
    Calls PA.prog 34 #[I a, I n, .pointer (some ⟨bx, 0, none⟩)] w fun e w' => e = .returned (I (min n m)) ∧ w = w' := by
  go_enter PA.func34, Try.ntmps34
  go_wp2
  · go_ret
    refine ⟨?_, rfl⟩
    show Ending.returned (I m) = .returned (I (min n m))
    rw [show min n m = m by omega]
  · go_ret
    refine ⟨?_, rfl⟩
    show Ending.returned (I n) = .returned (I (min n m))
    rw [show min n m = n by omega]

/-- The first k days' wants kept below m. -/
def ratTo (m : Int) (ps : List Pt) : Nat → List Pt
  | 0 => ps
  | k + 1 => (ratTo m ps k).modify k fun x => { x with cost := min x.cost m }
theorem ratTo_len (m : Int) (ps : List Pt) : ∀ k, (ratTo m ps k).length = ps.length
  | 0 => rfl
  | k + 1 => by simp [ratTo, ratTo_len m ps k]
theorem ratTo_get (m : Int) (ps : List Pt) (i : Nat) : ∀ k, (ratTo m ps k)[i]? = (ps[i]?).map fun x => if i < k then { x with cost := min x.cost m } else x
  | 0 => by simp [ratTo]
  | k + 1 => by
    rw [ratTo, List.getElem?_modify, ratTo_get m ps i k]
    cases ps[i]? with
    | none => simp
    | some x =>
      by_cases h : k = i
      · subst h; simp
      · have : (i < k + 1) ↔ (i < k) := by omega
        simp [h, this]
def ratD (m : Int) (ps : List Pt) : List Pt := ps.map fun x => { x with cost := min x.cost m }
theorem ratTo_all (m : Int) (ps : List Pt) : ratTo m ps ps.length = ratD m ps := by
  apply List.ext_getElem?
  intro i
  rw [ratTo_get, ratD, List.getElem?_map]
  cases h : ps[i]? with
  | none => rfl
  | some x => 
    have := (List.getElem?_eq_some_iff.1 h).1
    simp [this]
theorem ownCd_set {W : World} {B g cap n : Nat} {ps : List Pt} (_hn : ps.length = n) (h : W.ownsRow B 59 3 (.slice (some ⟨g, 0, none⟩) n cap) n (ptCells ps)) (i : Nat) (c : Int) (hi : i < ps.length) :
    (W.setCell ⟨g, i * 3 + 2, none⟩ (I c)).ownsRow B 59 3 (.slice (some ⟨g, 0, none⟩) n cap) n (ptCells (ps.modify i fun x => { x with cost := c })) := by
  have := (h.stored (i * 3 + 2) (I c)).1
  rw [ptCells_setCost _ _ _ hi] at this
  exact this
theorem ownCd_cell {W : World} {B g cap n : Nat} {ps : List Pt} (hn : ps.length = n) (h : W.ownsRow B 59 3 (.slice (some ⟨g, 0, none⟩) n cap) n (ptCells ps)) (i : Nat) (p : Pt) (hp : ps[i]? = some p) :
    W.cell? ⟨g, i * 3 + 2, none⟩ = some (I p.cost) ∧ W.frozen? ⟨g, i * 3 + 2, none⟩ = false := by
  obtain ⟨hi, rfl⟩ := List.getElem?_eq_some_iff.1 hp
  refine ⟨?_, h.frozenAt _⟩
  rw [h.cellAt (i * 3 + 2) (by omega)]
  exact (ptCells_at _ _ hi).2.2
end Go.Proofs.Ytpolipcicfjkiaa
/- Walks of Freed, point, Example, SameInts. -/
namespace Go.Proofs.Ytpolipcicfjkiaa
open Go.RowKit Go.Sort

set_option maxHeartbeats 400000 in
theorem point_any (a b c : Int) (w : World) : Calls PA.prog 40 #[I a, I b, I c] w fun e w' => e = .returned (.agg #[I a, I b, I c]) ∧ Below w.heap.size w w' := by
  go_enter PA.func40, Try.ntmps40
  go_wp2_with fail
  refine bodyPost_ret (v := .agg #[I a, I b, I c]) (by simp [results, Try.results40, go_sem]) rfl ⟨rfl, ?_⟩
  repeat (first | exact Below.refl _ _ | refine Below.setCell ?_ (by simp) _ | exact (Below.refl _ _).alloc (Nat.le_refl _) _)

def exD : DLine := { pts := [⟨20, 22, 0⟩, ⟨15, 25, 3⟩, ⟨18, 19, 1⟩, ⟨10, 19, 4⟩, ⟨9, 12, 0⟩], odds := [1, 1, 2, 4] }

set_option maxRecDepth 20000 in
set_option maxHeartbeats 1000000 in
theorem example_any (w : World) : Calls PA.prog 24 #[] w fun e w' => ∃ v, e = .returned v ∧ LineAt w' v exD ∧ Below w.heap.size w w' := by
  have hb0 : ∀ x, Below w.heap.size w (w.alloc x) := fun x => (Below.refl _ _).alloc (Nat.le_refl _) _
  have B0 := Box2.new w (.slice none 0 0) (.slice none 0 0) 28
  have HB := Lib.hid (hb0 (.cells #[.slice none 0 0, .slice none 0 0] 28))
  go_enter PA.func24, Try.ntmps24
  go_wp2_with (go_at_call 40; refine (point_any _ _ _ _).mono ?_; rintro e w1 ⟨rfl, hb1⟩; have B0 := B0.keep hb1; obtain ⟨x0, x1, x2, x3⟩ := id B0; have hlt := B0.lt; have HB := Lib.hid (bto HB.out hb1); clear hb1)
  obtain ⟨r1, r2⟩ := res2 x0 x1
  refine bodyPost_ret (v := .agg #[.slice (some ⟨w1.heap.size, 0, none⟩) 5 5, .slice (some ⟨w1.heap.size + 1, 0, none⟩) 4 4]) (by simp [results, Try.results24, go_sem, r1, r2, hlt]) rfl ⟨_, rfl, ?_, ?_⟩
  · obtain ⟨W0, hW0⟩ : ∃ W0 : World, (w1.setCell ⟨w.heap.size, 0, none⟩ (.slice (some ⟨w1.heap.size, 0, none⟩) 5 5)).setCell ⟨w.heap.size, 1, none⟩ (.slice (some ⟨w1.heap.size + 1, 0, none⟩) 4 4) = W0 := ⟨_, rfl⟩
    have hs : W0.heap.size = w1.heap.size := by rw [← hW0]; simp
    rw [hW0]
    refine ⟨_, _, rfl, Reads.below (w := W0.alloc (.cells #[I 20, I 22, I 0, I 15, I 25, I 3, I 18, I 19, I 1, I 10, I 19, I 4, I 9, I 12, I 0] 39)) ⟨rfl, _, _, rfl, by decide, by decide, fun _ => ⟨_, 0, rfl, fun j u hu => ?_⟩⟩ ((Below.refl _ _).alloc (Nat.le_refl _) _), ⟨rfl, _, _, rfl, by decide, by decide, fun _ => ⟨_, 0, rfl, fun j u hu => ?_⟩⟩⟩
    · rw [Nat.zero_add, ← hs]
      exact box_cell W0 _ _ j (by rw [List.getElem?_toArray]; exact hu)
    · rw [Nat.zero_add, ← hs, ← World.size_alloc W0 (.cells #[I 20, I 22, I 0, I 15, I 25, I 3, I 18, I 19, I 1, I 10, I 19, I 4, I 9, I 12, I 0] 39)]
      exact box_cell _ _ _ j (by rw [List.getElem?_toArray]; exact hu)
  · exact (((HB.out.setCell (p := ⟨w.heap.size, 0, none⟩) (by simp) _).setCell (p := ⟨w.heap.size, 1, none⟩) (by simp) _).alloc (by simp; omega) _).alloc (by simp; omega) _

end Go.Proofs.Ytpolipcicfjkiaa
/- Walks of the reference's small words: Within, IsPoint, IsStretch, AreSome, Check, and of Far, ready. -/
namespace Go.Proofs.Ytpolipcicfjkiaa
open Go.RowKit Go.Sort

set_option maxHeartbeats 400000 in
theorem rWithin_any (n lo hi : Int) (w : World) : Calls PA.prog 19 #[I n, I lo, I hi] w fun e w' => e = .returned (.bool (inR n lo hi)) ∧ w' = w := by
  by_cases h1 : lo ≤ n
  · by_cases h2 : n ≤ hi
    · go_enter PA.func19, Try.ntmps19
      go_wp2_with fail
      go_ret
      exact ⟨by simp [inR, h1, h2], rfl⟩
    · go_enter PA.func19, Try.ntmps19
      go_wp2_with fail
      go_ret
      exact ⟨by simp [inR]; omega, rfl⟩
  · go_enter PA.func19, Try.ntmps19
    go_wp2_with fail
    go_ret
    exact ⟨by simp [inR]; omega, rfl⟩
set_option maxHeartbeats 400000 in
theorem rwithin_any (n lo hi : Int) (w : World) : Calls PA.prog 20 #[I n, I lo, I hi] w fun e w' => e = .returned (.bool (inR n lo hi)) ∧ w' = w := by
  go_enter PA.func20, Try.ntmps20
  go_wp2_with (go_at_call 19; refine (rWithin_any _ _ _ _).mono ?_; rintro e w' ⟨rfl, rfl⟩)
  go_ret
  exact ⟨rfl, rfl⟩
set_option maxHeartbeats 400000 in
theorem rIsPt_any (v : Value) (d : DLine) (n : Int) (w : World) (hv : LineAt w v d) (hlen : d.pts.length ≤ 1000) :
    Calls PA.prog 7 #[v, I n] w fun e w' => e = .returned (.bool (isPt d n)) ∧ Below w.heap.size w w' := by
  obtain ⟨pv, ov, rfl, hp, ho⟩ := hv
  obtain ⟨A, c, rfl, _, _, _⟩ := hp.open_
  clear hp ho
  go_enter PA.func7, Try.ntmps7
  go_wp2_with (go_at_call 20; refine (rwithin_any _ _ _ _).mono ?_; rintro e w' ⟨rfl, rfl⟩)
  go_ret
  exact ⟨rfl, (Below.refl _ _).alloc (Nat.le_refl _) _⟩
theorem someOf_ref (d : DLine) (f t : Int) : someOf d f t = (isSt d f && inR t 1 d.odds.length && decide (f < t)) := by
  by_cases h : someOf d f t = true
  · rw [h]
    obtain ⟨h1, h2, h3⟩ := someOf_spec h
    symm
    simp [isSt, inR]
    omega
  · have h0 : someOf d f t = false := by simpa using h
    rw [h0]
    symm
    refine Bool.eq_false_iff.2 fun h' => h ?_
    simp [isSt, inR] at h'
    simp [someOf]
    omega

theorem badPt_ref (p : Pt) : badPt p = (!inR p.lo 0 99 || !inR p.hi p.lo 99 || !inR p.cost 0 20) := by
  unfold badPt inR
  by_cases h1 : 0 ≤ p.hi <;> by_cases h2 : p.hi ≤ 99 <;> by_cases h3 : 0 ≤ p.lo <;> by_cases h4 : p.lo ≤ p.hi <;> by_cases h5 : p.lo ≤ 99 <;> simp [h1, h2, h3, h4, h5] <;> omega
theorem chk_bad {d : DLine} (h : valid d = false) : chk d = 60 := by simp [chk, h]
theorem valid_of {d : DLine} (h1 : d.odds.length ≤ 7) (h2 : d.pts.length = d.odds.length + 1) (h3 : ∀ j (h : j < d.odds.length), badOdds d.odds[j] = false) (h4 : ∀ j (h : j < d.pts.length), badPt d.pts[j] = false) : valid d = true := by
  unfold valid
  simp only [Bool.and_eq_true, decide_eq_true_eq, Bool.not_eq_true', List.any_eq_false]
  refine ⟨⟨⟨h1, fun x hx => ?_⟩, h2⟩, fun x hx => ?_⟩
  · obtain ⟨j, hj, rfl⟩ := List.mem_iff_getElem.1 hx
    simpa using h3 j hj
  · obtain ⟨j, hj, rfl⟩ := List.mem_iff_getElem.1 hx
    simpa using h4 j hj
theorem notvalid_odds {d : DLine} (j : Nat) (h : j < d.odds.length) (hb : badOdds d.odds[j] = true) : valid d = false := by
  refine Bool.eq_false_iff.2 fun hv => ?_
  have := (valid_spec hv).2.2.2 _ (List.getElem_mem h)
  simp [badOdds, inR] at hb
  omega
theorem notvalid_pts {d : DLine} (j : Nat) (h : j < d.pts.length) (hb : badPt d.pts[j] = true) : valid d = false := by
  refine Bool.eq_false_iff.2 fun hv => ?_
  unfold valid at hv
  simp only [Bool.and_eq_true, Bool.not_eq_true', List.any_eq_false] at hv
  exact hv.2 _ (List.getElem_mem h) hb
theorem notvalid_many {d : DLine} (h : 7 < d.odds.length ∨ d.pts.length ≠ d.odds.length + 1) : valid d = false := by
  refine Bool.eq_false_iff.2 fun hv => ?_
  have h1 := (valid_spec hv).1
  have h2 := (valid_spec hv).2.1
  omega

set_option maxRecDepth 20000 in
set_option maxHeartbeats 2000000 in
theorem rCheck_any (v : Value) (d : DLine) (w : World) (hv : LineAt w v d) (hlen : d.odds.length ≤ 1000) (hlen' : d.pts.length ≤ 1000) :
    Calls PA.prog 5 #[v] w fun e w' => e = .returned (I (chk d)) ∧ Below w.heap.size w w' := by
  obtain ⟨pv, ov, rfl, hp, ho⟩ := hv
  obtain ⟨A, c, rfl, hac, hcm, ha⟩ := ho.open_
  obtain ⟨A', c', rfl, hac', hcm', ha'⟩ := hp.open_
  have hb0 : ∀ x, Below w.heap.size w (w.alloc x) := fun x => (Below.refl _ _).alloc (Nat.le_refl _) _
  have HA := Lib.hid ha
  have HA' := Lib.hid ha'
  have B0 := Box2.new w (.slice A' d.pts.length c') (.slice A d.odds.length c) 28
  clear hp ho ha ha'
  by_cases h1 : 7 < d.odds.length
  · have HC := Lib.hid (chk_bad (notvalid_many (.inl h1)))
    clear B0
    go_enter PA.func5, Try.ntmps5
    go_wp2_with fail
    go_ret
    exact ⟨by rw [HC.out]; rfl, hb0 _⟩
  · by_cases h2 : d.pts.length = d.odds.length + 1
    · have H2 := Lib.hid h2
      have h2' : ((d.pts.length : Int) != (d.odds.length : Int) + 1) = false := by simp; omega
      clear h2
      go_enter PA.func5, Try.ntmps5
      obtain ⟨x0, x1, x2, x3⟩ := B0
      go_wp2_with fail
      go_loopw [3] (fun i wr => ∃ k : Nat, k ≤ d.odds.length ∧ i = I k ∧ Hid (∀ j (h : j < d.odds.length), j < k → badOdds d.odds[j] = false) ∧ wr = w.alloc (.cells #[.slice A' d.pts.length c', .slice A d.odds.length c] 28)) (fun i _ => d.odds.length - (intOf i).toNat)
      case atStart => exact ⟨0, by omega, rfl, Lib.hid (fun _ _ h => absurd h (by omega)), rfl⟩
      case round =>
        obtain ⟨k, hk, rfl, hj, rfl⟩ := hrel
        by_cases hlt : k < d.odds.length
        · obtain ⟨b, o, rfl, hbl, hcell⟩ := HA.out (by omega)
          have hcell := hcell k hlt
          have hbx := box_old w (.cells #[.slice A' d.pts.length c', .slice (some ⟨b, o, none⟩) d.odds.length c] 28) hcell
          clear hcell
          cases hb : inR d.odds[k] 1 9
          · have HC := Lib.hid (chk_bad (notvalid_odds k hlt (by simp [badOdds, hb])))
            go_wp2_with (go_at_call 20; refine (rwithin_any _ _ _ _).mono ?_; rintro e w' ⟨rfl, rfl⟩)
            go_ret
            exact ⟨by rw [HC.out]; rfl, hb0 _⟩
          · have HB := Lib.hid (show badOdds d.odds[k] = false by simp [badOdds, hb])
            go_wp2_with (go_at_call 20; refine (rwithin_any _ _ _ _).mono ?_; rintro e w' ⟨rfl, rfl⟩)
            go_roundw
            case rel => exact ⟨k + 1, by omega, by go_num, Lib.hid (fun j h hjk => by
              by_cases e : j = k
              · subst e; exact HB.out
              · exact hj.out j h (by omega)), by trivial⟩
            case measure => first | (simp [intOf]; done) | (simp [intOf]; omega)
        · obtain rfl : k = d.odds.length := by omega
          go_wp2_with fail
          obtain ⟨wo, hwo⟩ : ∃ wo : World, wo = w.alloc (.cells #[.slice A' d.pts.length c', .slice A d.odds.length c] 28) := ⟨_, rfl⟩
          go_loopw [4] (fun i wr => ∃ k : Nat, k ≤ d.pts.length ∧ i = I k ∧ Hid (∀ j (h : j < d.pts.length), j < k → badPt d.pts[j] = false) ∧ Hid (Below wo.heap.size wo wr)) (fun i _ => d.pts.length - (intOf i).toNat)
          case atStart => exact ⟨0, by omega, rfl, Lib.hid (fun _ _ h => absurd h (by omega)), Lib.hid (by rw [hwo]; exact Below.refl _ _)⟩
          case round =>
            obtain ⟨m, hm, rfl, hq, hbw⟩ := hrel
            have B1 := ((Box2.mk x0 x1 x2 x3)).keep (by rw [← hwo]; exact hbw.out)
            have hbt : Below w.heap.size w wr := bto (hb0 _) (by rw [← hwo]; exact hbw.out)
            have HBT := Lib.hid hbt
            clear x0 x1 x2 x3
            obtain ⟨x0, x1, x2, x3⟩ := B1
            by_cases hlt : m < d.pts.length
            · obtain ⟨b, o, rfl, hbl, hcell⟩ := HA'.out (by omega)
              obtain ⟨y0, y1, y2⟩ := hcell m hlt
              have z0 := keep_cell hbt y0
              have z1 := keep_cell hbt y1
              have z2 := keep_cell hbt y2
              have HBD := Lib.hid (badPt_ref d.pts[m])
              clear hcell y0 y1 y2 hbt
              cases hb1 : inR d.pts[m].lo 0 99
              · have HC := Lib.hid (chk_bad (notvalid_pts m hlt (by rw [HBD.out, hb1]; rfl)))
                go_wp2_with (go_at_call 20; refine (rwithin_any _ _ _ _).mono ?_; rintro e w' ⟨rfl, rfl⟩)
                go_ret
                exact ⟨by rw [HC.out]; rfl, HBT.out.alloc HBT.out.size _⟩
              · cases hb2 : inR d.pts[m].hi d.pts[m].lo 99
                · have HC := Lib.hid (chk_bad (notvalid_pts m hlt (by rw [HBD.out, hb1, hb2]; rfl)))
                  go_wp2_with (go_at_call 20; refine (rwithin_any _ _ _ _).mono ?_; rintro e w' ⟨rfl, rfl⟩)
                  go_ret
                  exact ⟨by rw [HC.out]; rfl, HBT.out.alloc HBT.out.size _⟩
                · cases hb3 : inR d.pts[m].cost 0 20
                  · have HC := Lib.hid (chk_bad (notvalid_pts m hlt (by rw [HBD.out, hb1, hb2, hb3]; rfl)))
                    go_wp2_with (go_at_call 20; refine (rwithin_any _ _ _ _).mono ?_; rintro e w' ⟨rfl, rfl⟩)
                    go_ret
                    exact ⟨by rw [HC.out]; rfl, HBT.out.alloc HBT.out.size _⟩
                  · have HB := Lib.hid (show badPt d.pts[m] = false by rw [HBD.out, hb1, hb2, hb3]; rfl)
                    go_wp2_with (go_at_call 20; refine (rwithin_any _ _ _ _).mono ?_; rintro e w' ⟨rfl, rfl⟩)
                    go_roundw
                    case rel => exact ⟨m + 1, by omega, by go_num, Lib.hid (fun j h hjk => by
                      by_cases e : j = m
                      · subst e; exact HB.out
                      · exact hq.out j h (by omega)), Lib.hid (hbw.out.alloc hbw.out.size _)⟩
                    case measure => first | (simp [intOf]; done) | (simp [intOf]; omega)
            · obtain rfl : m = d.pts.length := by omega
              have HC := Lib.hid (show chk d = 0 by
                have := valid_of (by omega) H2.out (fun j h => hj.out j h h) (fun j h => hq.out j h h)
                simp [chk, this])
              go_wp2_with fail
              go_ret
              exact ⟨by rw [HC.out]; rfl, HBT.out⟩
    · have h2' : ((d.pts.length : Int) != (d.odds.length : Int) + 1) = true := by simp; omega
      have HC := Lib.hid (chk_bad (notvalid_many (.inr h2)))
      clear B0 h2
      go_enter PA.func5, Try.ntmps5
      go_wp2_with fail
      go_ret
      exact ⟨by rw [HC.out]; rfl, hb0 _⟩

def farD (d : DLine) : Bool := decide (40 < d.pts.length) || decide (40 < d.odds.length)
theorem far_cast (d : DLine) : (decide (40 < (d.pts.length : Int)) || decide (40 < (d.odds.length : Int))) = farD d := by
  unfold farD
  rw [decide_eq_decide.2 (show 40 < (d.pts.length : Int) ↔ 40 < d.pts.length by omega), decide_eq_decide.2 (show 40 < (d.odds.length : Int) ↔ 40 < d.odds.length by omega)]
set_option maxHeartbeats 400000 in
theorem far_any (v : Value) (d : DLine) (w : World) (hv : LineAt w v d) :
    Calls PA.prog 4 #[v] w fun e w' => e = .returned (.bool (farD d)) ∧ Below w.heap.size w w' := by
  obtain ⟨pv, ov, rfl, hp, ho⟩ := hv
  obtain ⟨A, c, rfl, hac, hcm, ha⟩ := ho.open_
  obtain ⟨A', c', rfl, hac', hcm', ha'⟩ := hp.open_
  have hb0 : ∀ x, Below w.heap.size w (w.alloc x) := fun x => (Below.refl _ _).alloc (Nat.le_refl _) _
  clear hp ho ha ha'
  by_cases h1 : 40 < d.pts.length
  · have HF := Lib.hid (show farD d = true by simp [farD]; omega)
    go_enter PA.func4, Try.ntmps4
    go_wp2_with fail
    go_ret
    exact ⟨by rw [HF.out]; rfl, hb0 _⟩
  · by_cases h2 : 40 < d.odds.length
    · have HF := Lib.hid (far_cast d)
      go_enter PA.func4, Try.ntmps4
      go_wp2_with fail
      go_ret
      exact ⟨by rw [← HF.out]; rfl, hb0 _⟩
    · have HF := Lib.hid (far_cast d)
      go_enter PA.func4, Try.ntmps4
      go_wp2_with fail
      go_ret
      exact ⟨by rw [← HF.out]; rfl, hb0 _⟩
def readyD (d : DLine) : Bool := valid d
theorem far_of_valid {d : DLine} (h : valid d = true) : farD d = false := by
  have h1 := (valid_spec h).1
  have h2 := (valid_spec h).2.1
  simp [farD]; omega
end Go.Proofs.Ytpolipcicfjkiaa
/- Walks of In and of the reference's IsTruth. -/
namespace Go.Proofs.Ytpolipcicfjkiaa
open Go.RowKit Go.Sort

theorem rwithin_b (n lo hi : Int) (W : World) : Calls PA.prog 20 #[I n, I lo, I hi] W fun e w' => e = .returned (.bool (inR n lo hi)) ∧ Below W.heap.size W w' :=
  (rwithin_any n lo hi W).mono fun _ _ h => ⟨h.1, by rw [h.2]; exact Below.refl _ _⟩
theorem okAt_eq {d : DLine} {l : List Int} (k : Nat) (h : k < l.length) (h' : k < d.pts.length) : okAt d l k = (inR l[k] d.pts[k].lo d.pts[k].hi && !(decide (0 < k) && decide (l.getD (k - 1) 0 < l[k]))) := by
  unfold okAt
  rw [show l.getD k 0 = l[k] by simp [List.getD, List.getElem?_eq_getElem h], show d.pts.getD k default = d.pts[k] by simp [List.getD, List.getElem?_eq_getElem h']]

set_option maxRecDepth 20000 in
set_option maxHeartbeats 2000000 in
theorem isTruth_any (v lv : Value) (d : DLine) (l : List Int) (w : World) (hv : LineAt w v d) (hl : Ints w lv l) (hlen : d.pts.length ≤ 1000) (hlen' : l.length ≤ 1000) :
    Calls PA.prog 21 #[v, lv] w fun e w' => e = .returned (.bool (truthB d l)) ∧ Below w.heap.size w w' := by
  obtain ⟨pv, ov, rfl, hp, ho⟩ := hv
  obtain ⟨A, c, rfl, hac, hcm, ha⟩ := hl.open_
  obtain ⟨A', c', rfl, hac', hcm', ha'⟩ := hp.open_
  have hb0 : ∀ x, Below w.heap.size w (w.alloc x) := fun x => (Below.refl _ _).alloc (Nat.le_refl _) _
  have HA := Lib.hid ha
  have HA' := Lib.hid ha'
  have B0 := Box2.new w (.slice A' d.pts.length c') ov 28
  clear hp ho ha ha' hl
  by_cases h1 : l.length = d.pts.length
  · have hl1 : ((l.length : Int) != (d.pts.length : Int)) = false := by simp; omega
    have HL := Lib.hid h1
    clear h1
    have HB0 := Lib.hid B0
    have HBW := Lib.hid (hb0 (.cells #[.slice A' d.pts.length c', ov] 28))
    go_enter PA.func21, Try.ntmps21
    obtain ⟨x0, x1, x2, x3⟩ := B0
    go_wp2_with fail
    go_loopw [5] (fun i wr => ∃ k : Nat, k ≤ l.length ∧ i = I k ∧ Hid (∀ j, j < k → okAt d l j = true) ∧ Hid (Box2 wr w.heap.size (.slice A' d.pts.length c') ov) ∧ Hid (Below w.heap.size w wr)) (fun i _ => l.length - (intOf i).toNat)
    case atStart => exact ⟨0, by omega, rfl, Lib.hid (fun _ h => absurd h (by omega)), HB0, HBW⟩
    case round =>
      clear x0 x1 x2 x3 HB0 HBW
      obtain ⟨k, hk, rfl, hj, HB, HW⟩ := hrel
      by_cases hlt : k < l.length
      · have hlt' : k < d.pts.length := by have := HL.out; omega
        obtain ⟨b, o, rfl, hbl, hcell⟩ := HA.out (by omega)
        obtain ⟨b', o', rfl, hbl', hcell'⟩ := HA'.out (by omega)
        have y0 := keep_cell HW.out (hcell k hlt)
        have y1 := keep_cell HW.out (hcell' k hlt').1
        have y2 := keep_cell HW.out (hcell' k hlt').2.1
        have q1 : (k : Int) < (l.length : Int) := by omega
        have q2 : (k : Int) < (d.pts.length : Int) := by omega
        have HOK := Lib.hid (okAt_eq k hlt hlt')
        have e0 := cell_regrown y0
        have e1 := cell_regrown y1
        have e2 := cell_regrown y2
        have e3 := cell_regrown HB.out.c0
        have c1 := ext_call (w := wr) fun W _ => rwithin_b l[k] d.pts[k].lo d.pts[k].hi W
        cases hin : inR l[k] d.pts[k].lo d.pts[k].hi
        · rw [hin] at c1
          have HT := Lib.hid (truth_not (d := d) k hlt (by rw [HOK.out, hin]; rfl))
          clear hcell hcell' y0 y1 y2 hin
          go_wp2_with fail
          refine wp_region_ext (by kernel_rfl) (by kernel_rfl) ?_
          repeat (first | go_big_quiet_step (exact c1 _ _) | quiet_step (exact c1 _ _))
          refine wpQuiet_nil ?_
          clear e0 e1 e2 e3 c1
          intro w1 hb1
          go_wp2_with fail
          go_ret
          exact ⟨by rw [HT.out]; rfl, bto HW.out hb1⟩
        · rw [hin] at c1
          by_cases hk0 : 0 < k
          · have y3 := keep_cell HW.out (hcell (k - 1) (by omega))
            have e4 := cell_regrown y3
            have i0 : IntKind.i64.wrap ((k : Int) - 1) = ((k - 1 : Nat) : Int) := by rw [IntWalk.i64_in _ (by omega)]; omega
            have i1 : ((k - 1 : Nat) : Int) < (l.length : Int) := by omega
            have i2 : (0 : Int) ≤ ((k - 1 : Nat) : Int) := by omega
            have i3 : (0 : Int) < (k : Int) := by omega
            by_cases hgt : l[k - 1] < l[k]
            · have HT := Lib.hid (truth_not (d := d) k hlt (by rw [HOK.out, hin]; simp [hk0, hgt, List.getD, List.getElem?_eq_getElem (show k - 1 < l.length by omega)]))
              clear hcell hcell' y0 y1 y2 y3 hin
              go_wp2_with fail
              refine wp_region_ext (by kernel_rfl) (by kernel_rfl) ?_
              repeat (first | go_big_quiet_step (exact c1 _ _) | quiet_step (exact c1 _ _))
              refine wpQuiet_nil ?_
              clear e0 e1 e2 e3 e4 c1 i0
              intro w1 hb1
              go_wp2_with fail
              go_ret
              exact ⟨by rw [HT.out]; rfl, bto HW.out hb1⟩
            · have HT := Lib.hid (show okAt d l k = true by rw [HOK.out, hin]; simp [hgt, List.getD, List.getElem?_eq_getElem (show k - 1 < l.length by omega)])
              clear hcell hcell' y0 y1 y2 y3 hin
              go_wp2_with fail
              refine wp_region_ext (by kernel_rfl) (by kernel_rfl) ?_
              repeat (first | go_big_quiet_step (exact c1 _ _) | quiet_step (exact c1 _ _))
              refine wpQuiet_nil ?_
              clear e0 e1 e2 e3 e4 c1 i0
              intro w1 hb1
              go_wp2_with fail
              go_roundw
              case rel => exact ⟨k + 1, by omega, by go_num, Lib.hid (fun j h => by
                by_cases e : j = k
                · subst e; exact HT.out
                · exact hj.out j (by omega)), Lib.hid (HB.out.keep hb1), Lib.hid (bto HW.out hb1)⟩
              case measure => first | (simp [intOf]; done) | (simp [intOf]; omega)
          · have i3 : ¬ (0 : Int) < (k : Int) := by omega
            have HT := Lib.hid (show okAt d l k = true by rw [HOK.out, hin]; simp [hk0])
            clear hcell hcell' y0 y1 y2 hin
            go_wp2_with fail
            refine wp_region_ext (by kernel_rfl) (by kernel_rfl) ?_
            repeat (first | go_big_quiet_step (exact c1 _ _) | quiet_step (exact c1 _ _))
            refine wpQuiet_nil ?_
            clear e0 e1 e2 e3 c1
            intro w1 hb1
            go_wp2_with fail
            go_roundw
            case rel => exact ⟨k + 1, by omega, by go_num, Lib.hid (fun j h => by
              by_cases e : j = k
              · subst e; exact HT.out
              · exact hj.out j (by omega)), Lib.hid (HB.out.keep hb1), Lib.hid (bto HW.out hb1)⟩
            case measure => first | (simp [intOf]; done) | (simp [intOf]; omega)
      · have HT := Lib.hid (truth_yes HL.out (fun i hi => hj.out i (by omega)))
        go_wp2_with fail
        go_ret
        exact ⟨by rw [HT.out]; rfl, HW.out⟩
  · have hl1 : ((l.length : Int) != (d.pts.length : Int)) = true := by simp; omega
    have HE := Lib.hid (show truthB d l = false by unfold truthB; simp [h1])
    clear h1
    obtain ⟨x0, x1, x2, x3⟩ := B0
    go_enter PA.func21, Try.ntmps21
    go_wp2_with fail
    go_ret
    exact ⟨by rw [HE.out]; rfl, hb0 _⟩
end Go.Proofs.Ytpolipcicfjkiaa
/- Walk of Freed. -/
namespace Go.Proofs.Ytpolipcicfjkiaa
open Go.RowKit Go.Sort

theorem own_ne {W : World} {B B' e e' s s' n n' : Nat} {v v' : Value} {xs xs' : List Value} (h : W.ownsRow B e s v n xs) (h' : W.ownsRow B' e' s' v' n' xs') (hne : e ≠ e') {g : Nat} (hg : v.ownBlock = some g) : v'.ownBlock ≠ some g := by
  intro hg'
  rcases h.2 with ⟨rfl, _⟩ | ⟨g1, cap, cur, rfl, _, hh, _⟩
  · cases hg
  · rcases h'.2 with ⟨rfl, _⟩ | ⟨g2, cap', cur', rfl, _, hh', _⟩
    · cases hg'
    · have e1 : g1 = g := by simpa [Value.ownBlock] using hg
      have e2 : g2 = g := by simpa [Value.ownBlock] using hg'
      rw [e1] at hh
      rw [e2] at hh'
      rw [hh] at hh'
      injection hh' with hh'
      injection hh' with _ ht
      exact hne ht
theorem own_setOther {W : World} {base e size n : Nat} {v : Value} {xs : List Value} (h : W.ownsRow base e size v n xs) (q : Addr) (u : Value) (hq : v.ownBlock ≠ some q.block) : (W.setCell q u).ownsRow base e size v n xs :=
  h.kept (row := some q.block) ⟨rfl, rfl, rfl, by simp, fun k _ hk => Below.heap_setCell _ _ _ k (fun e => hk (by rw [e]))⟩ (.inr hq)

/-- A line of the call's own, whose points lie in block g. -/
structure OwnAt (w : World) (base g cap : Nat) (ov : Value) (d : DLine) : Prop where
  pts : w.ownsRow base 39 3 (.slice (some ⟨g, 0, none⟩) d.pts.length cap) d.pts.length (ptCells d.pts)
  odds : w.ownsRow base 3 1 ov d.odds.length (d.odds.map I)
theorem OwnLine.at_ {w : World} {base : Nat} {v : Value} {d : DLine} (h : OwnLine w base v d) (hn : 0 < d.pts.length) : ∃ g cap A c, v = .agg #[.slice (some ⟨g, 0, none⟩) d.pts.length cap, .slice A d.odds.length c] ∧ base ≤ g ∧ g < w.heap.size ∧ OwnAt w base g cap (.slice A d.odds.length c) d := by
  obtain ⟨pv, ov, rfl, hp, ho⟩ := h
  obtain ⟨g, cap, rfl, h1, h2⟩ := own_shape_pos hp hn
  obtain ⟨A, c, rfl⟩ := own_shape ho
  exact ⟨g, cap, A, c, rfl, h1, h2, hp, ho⟩
theorem OwnAt.line {w : World} {base g cap : Nat} {ov : Value} {d : DLine} (h : OwnAt w base g cap ov d) : OwnLine w base (.agg #[.slice (some ⟨g, 0, none⟩) d.pts.length cap, ov]) d := ⟨_, _, rfl, h.pts, h.odds⟩
theorem OwnAt.below {w w' : World} {base g cap : Nat} {ov : Value} {d : DLine} (h : OwnAt w base g cap ov d) (hb : Below w.heap.size w w') : OwnAt w' base g cap ov d := ⟨own_below h.pts hb, own_below h.odds hb⟩
theorem OwnAt.other {w : World} {base g cap : Nat} {ov : Value} {d : DLine} (h : OwnAt w base g cap ov d) (q : Addr) (u : Value) (hq : q.block < base) : OwnAt (w.setCell q u) base g cap ov d := ⟨own_setCell h.pts q u hq, own_setCell h.odds q u hq⟩
theorem OwnAt.cost {w : World} {base g cap : Nat} {ov : Value} {d : DLine} (h : OwnAt w base g cap ov d) (p : Nat) (c : Int) (hp : p < d.pts.length) : OwnAt (w.setCell ⟨g, p * 3 + 2, none⟩ (I c)) base g cap ov (setCost d p c) := by
  refine ⟨?_, ?_⟩
  · have := own_setCost h.pts p c hp
    simpa [setCost] using this
  · exact own_setOther h.odds _ _ (own_ne h.pts h.odds (by decide) rfl)
theorem OwnAt.cell {w : World} {base g cap : Nat} {ov : Value} {d : DLine} (h : OwnAt w base g cap ov d) (p : Nat) (hp : p < d.pts.length) : w.cell? ⟨g, p * 3 + 2, none⟩ = some (I d.pts[p].cost) ∧ w.frozen? ⟨g, p * 3 + 2, none⟩ = false := by
  refine ⟨?_, h.pts.frozenAt _⟩
  rw [h.pts.cellAt (p * 3 + 2) (by omega)]
  exact (ptCells_at _ _ hp).2.2

end Go.Proofs.Ytpolipcicfjkiaa
/- Boxes of any number of cells; a line whose points cost the same. -/
namespace Go.Proofs.Ytpolipcicfjkiaa
open Go.RowKit Go.Sort

/-- The cells of a block that is read. -/
def Cells (w : World) (B : Nat) (l : List Value) : Prop := ∀ i v, l[i]? = some v → w.cell? ⟨B, i, none⟩ = some v
theorem Cells.keep {w w' : World} {B : Nat} {l : List Value} (h : Cells w B l) (hb : Below w.heap.size w w') : Cells w' B l := fun i v hv => keep_cell hb (h i v hv)
theorem Cells.other {w : World} {B : Nat} {l : List Value} (h : Cells w B l) (q : Addr) (u : Value) (hq : q.block ≠ B) : Cells (w.setCell q u) B l := fun i v hv => by
  rw [World.cell?_setCell_other _ _ _ _ (fun e => hq (by rw [e]))]; exact h i v hv
theorem Cells.new (w : World) (l : List Value) (T : TypeId) : Cells (w.alloc (.cells l.toArray T)) w.heap.size l := fun i v hv => box_cell w _ _ i (by rw [List.getElem?_toArray]; exact hv)

theorem box_lt {w : World} {B : Nat} {u : Value} {l : List Value} (h : Cells w B (u :: l)) : B < w.heap.size := World.block_lt_of_cell? w _ (h 0 u rfl)
theorem costAt_setCost (d : DLine) (p q : Nat) (c : Int) (hp : p < d.pts.length) : costAt (setCost d p c) q = if q = p then c else costAt d q := by
  unfold costAt setCost
  by_cases h : q = p
  · subst h
    rw [if_pos rfl]
    simp [hp]
  · rw [if_neg h]
    simp [Ne.symm h]
/-- The first k points cost c. -/
def evenTo (d : DLine) (c : Int) : Nat → DLine
  | 0 => d
  | k + 1 => setCost (evenTo d c k) k c
theorem evenTo_len (d : DLine) (c : Int) : ∀ k, (evenTo d c k).pts.length = d.pts.length ∧ (evenTo d c k).odds = d.odds
  | 0 => ⟨rfl, rfl⟩
  | k + 1 => by
    obtain ⟨h1, h2⟩ := evenTo_len d c k
    obtain ⟨h3, h4⟩ := setCost_len (evenTo d c k) k c
    exact ⟨h3.trans h1, h4.trans h2⟩
theorem evenTo_valid {d : DLine} (h : valid d = true) (c : Int) (hc : 0 ≤ c ∧ c ≤ 20) : ∀ k, valid (evenTo d c k) = true
  | 0 => h
  | k + 1 => setCost_valid (evenTo_valid h c hc k) k c hc
theorem evenTo_cost (d : DLine) (c : Int) : ∀ k, k ≤ d.pts.length → ∀ q, costAt (evenTo d c k) q = if q < k then c else costAt d q
  | 0, _, q => by rw [if_neg (by omega)]; rfl
  | k + 1, h, q => by
    have ih := evenTo_cost d c k (by omega) q
    show costAt (setCost (evenTo d c k) k c) q = _
    rw [costAt_setCost _ _ _ _ (by rw [(evenTo_len d c k).1]; omega)]
    by_cases hq : q = k
    · rw [if_pos hq, if_pos (by omega)]
    · rw [if_neg hq, ih]
      by_cases h' : q < k
      · rw [if_pos h', if_pos (by omega)]
      · rw [if_neg h', if_neg (by omega)]
theorem wt_nonneg {c : Nat → Int} (hc : ∀ q, 0 ≤ c q) (m : Nat) : ∀ f, 0 ≤ wt c m f := by
  induction m using Nat.strongRecOn with
  | _ m ih =>
    intro f
    rcases Nat.lt_or_ge m 2 with hm | hm
    · rw [wt_small c m f hm]; exact Int.le_refl _
    · obtain ⟨q, h1, h2, h3⟩ := wt_at c m f hm
      have a1 := ih (q - f) (by omega) f
      have a2 := hc q
      omega
theorem even_up {c : Int} (hc : 0 ≤ c) : ∀ (j m f : Nat), m ≤ 2 ^ j → wt (fun _ => c) m f ≤ c * j
  | 0, m, f, h => by rw [wt_small _ m f (by simpa using Nat.lt_succ_of_le h)]; simp
  | j + 1, m, f, h => by
    have hcj : 0 ≤ c * (j : Int) := Int.mul_nonneg hc (by omega)
    have e : c * ((j + 1 : Nat) : Int) = c * (j : Int) + c := by rw [Int.natCast_add, Int.mul_add]; simp
    rw [e]
    rcases Nat.lt_or_ge m 2 with hm | hm
    · rw [wt_small _ m f hm]; omega
    · have h2 : 2 ^ (j + 1) = 2 ^ j + 2 ^ j := by rw [Nat.pow_succ]; omega
      have a1 := wt_le (fun _ => c) m f (f + m / 2) (by omega) (by omega)
      have a2 := even_up hc j (f + m / 2 - f) f (by omega)
      have a3 := even_up hc j (f + m - (f + m / 2)) (f + m / 2) (by omega)
      omega
theorem even_low {c : Int} (hc : 0 ≤ c) : ∀ (j m f : Nat), 2 ^ j < m → c * (j + 1 : Nat) ≤ wt (fun _ => c) m f
  | 0, m, f, h => by
    obtain ⟨q, h1, h2, h3⟩ := wt_at (fun _ => c) m f (by simp at h; omega)
    have a1 := wt_nonneg (c := fun _ => c) (fun _ => hc) (q - f) f
    simp
    omega
  | j + 1, m, f, h => by
    have e : c * ((j + 1 + 1 : Nat) : Int) = c * ((j + 1 : Nat) : Int) + c := by rw [Int.natCast_add (j + 1) 1, Int.mul_add]; simp
    rw [e]
    have h2 : 2 ^ (j + 1) = 2 ^ j + 2 ^ j := by rw [Nat.pow_succ]; omega
    have hp : 0 < 2 ^ j := Nat.two_pow_pos j
    obtain ⟨q, h1, h4, h3⟩ := wt_at (fun _ => c) m f (by omega)
    rcases Nat.lt_or_ge (2 ^ j) (q - f) with hq | hq
    · have := even_low hc j (q - f) f hq
      omega
    · have := even_low hc j (f + m - q) q (by omega)
      omega
/-- Where the doubling stands. -/
def Dbl (c a b : Int) (m : Nat) : Prop := (a = 1 ∧ b = 0) ∨ (a = 2 ∧ b = c ∧ 1 < m) ∨ (a = 4 ∧ b = 2 * c ∧ 2 < m) ∨ (a = 8 ∧ b = 3 * c ∧ 4 < m)
theorem even_plain {d : DLine} {c a b : Int} (hc : 0 ≤ c) (f t : Nat) (ht : t < d.pts.length + 1) (hft : f < t) (h : Dbl c a b (t - f)) (ha : ((t - f : Nat) : Int) ≤ a) : worstN (evenTo d c d.pts.length) f t = b := by
  rw [worst_wt]
  rw [wt_congr (c' := fun _ => c) (t - f) f (fun q h1 h2 => by rw [evenTo_cost d c _ (Nat.le_refl _), if_pos (by omega)])]
  rcases h with ⟨rfl, rfl⟩ | ⟨rfl, rfl, h1⟩ | ⟨rfl, rfl, h1⟩ | ⟨rfl, rfl, h1⟩
  · exact wt_small _ _ _ (by omega)
  · have u := even_up hc 1 (t - f) f (by omega)
    have l := even_low hc 0 (t - f) f (by omega)
    simp at u l
    omega
  · have u := even_up hc 2 (t - f) f (by omega)
    have l := even_low hc 1 (t - f) f (by omega)
    simp at u l
    omega
  · have u := even_up hc 3 (t - f) f (by omega)
    have l := even_low hc 2 (t - f) f (by omega)
    simp at u l
    omega
end Go.Proofs.Ytpolipcicfjkiaa
