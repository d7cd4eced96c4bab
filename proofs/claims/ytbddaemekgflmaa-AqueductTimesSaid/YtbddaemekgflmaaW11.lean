/- Walks of clash, Clash, lost. -/
import Derived.Test.YtbddaemekgflmaaW9
import Derived.Test.YtbddaemekgflmaaPlain2
import Derived.Test.YtbddaemekgflmaaSeg
namespace Go.Proofs.Ytbddaemekgflmaa
open Go.RowKit Go.Sort

/-- A struct of two integers in the call's own box: what two stores leave. -/
theorem res2 {w : World} {g : Nat} {u0 u1 : Value} (h0 : w.cell? ⟨g, 0, none⟩ = some u0) (h1 : w.cell? ⟨g, 1, none⟩ = some u1) :
    (∀ v1, (w.setCell ⟨g, 0, none⟩ v1).cell? ⟨g, 0, none⟩ = some v1) ∧ ∀ v1 v2, ((w.setCell ⟨g, 0, none⟩ v1).setCell ⟨g, 1, none⟩ v2).cell? ⟨g, 1, none⟩ = some v2 :=
  ⟨fun _ => World.cell?_setCell_same _ _ _ h0, fun _ _ => World.cell?_setCell_same _ _ _ (by rw [World.cell?_setCell_other _ _ _ _ (by simp)]; exact h1)⟩

/-- A box of two cells, that may be written. -/
structure Box2 (w : World) (B : Nat) (u0 u1 : Value) : Prop where
  c0 : w.cell? ⟨B, 0, none⟩ = some u0
  c1 : w.cell? ⟨B, 1, none⟩ = some u1
  f0 : w.frozen? ⟨B, 0, none⟩ = false
  f1 : w.frozen? ⟨B, 1, none⟩ = false
theorem Box2.lt {w : World} {B : Nat} {u0 u1 : Value} (h : Box2 w B u0 u1) : B < w.heap.size := World.block_lt_of_cell? w _ h.c0
theorem Box2.keep {w w' : World} {B : Nat} {u0 u1 : Value} (h : Box2 w B u0 u1) (hb : Below w.heap.size w w') : Box2 w' B u0 u1 :=
  ⟨keep_cell hb h.c0, keep_cell hb h.c1, by rw [(bcell hb).2 _ _ h.lt]; exact h.f0, by rw [(bcell hb).2 _ _ h.lt]; exact h.f1⟩
theorem Box2.new (w : World) (u0 u1 : Value) (T : TypeId) : Box2 (w.alloc (.cells #[u0, u1] T)) w.heap.size u0 u1 :=
  ⟨box_cell w _ _ 0 rfl, box_cell w _ _ 1 rfl, by simp [go_sem], by simp [go_sem]⟩
theorem Box2.old {w : World} {B : Nat} {u0 u1 : Value} (h : Box2 w B u0 u1) (o : Obj) : Box2 (w.alloc o) B u0 u1 := h.keep ((Below.refl _ _).alloc (Nat.le_refl _) _)
theorem Box2.at_ {w : World} {B B' : Nat} {u0 u1 : Value} (h : Box2 w B u0 u1) (e : B = B') : Box2 w B' u0 u1 := e ▸ h

def pairV : Option (Nat × Nat) → Value
  | none => .agg #[I 0, I 0]
  | some (a, b) => .agg #[I a, I b]

set_option maxRecDepth 20000 in
set_option maxHeartbeats 2000000 in
theorem clash_any (v : Value) (d : DLine) (w : World) (hv : LineAt w v d) (hlen : d.pts.length ≤ 1000) :
    Calls Try.prog 74 #[v] w fun e w' => e = .returned (.tuple #[pairV (clashO d), .bool (clashO d).isSome]) ∧ Below w.heap.size w w' := by
  obtain ⟨pv, ov, rfl, hp, ho⟩ := hv
  obtain ⟨A, c, rfl, hnc, hcm, hcell⟩ := hp.open_
  clear hp ho
  have HC := Lib.hid hcell
  clear hcell
  go_enter Try.func74, Try.ntmps74
  go_wp2_with fail
  go_loopw [9] (fun i wr => ∃ b : Nat, b ≤ d.pts.length ∧ i = I b ∧ Hid (clB d.pts (d.pts.length - b) = clashO d) ∧ Box2 wr w.heap.size (.slice A d.pts.length c) ov ∧ Box2 wr (w.heap.size + 1) (I 0) (I 0) ∧ Below w.heap.size w wr) (fun i _ => d.pts.length - (intOf i).toNat)
  case atStart => exact ⟨0, by omega, rfl, Lib.hid rfl, (Box2.new w _ _ _).old _, (Box2.new _ _ _ _).at_ (by simp), ((Below.refl _ _).alloc (Nat.le_refl _) _).alloc (by simp) _⟩
  case round =>
    obtain ⟨b, hb, rfl, hcl, hb1, hb2, hbw⟩ := hrel
    by_cases hbl : b < d.pts.length
    · obtain ⟨e1, e2, e3, e4⟩ := hb1
      obtain ⟨e5, e6, e7, e8⟩ := hb2
      have HW := Lib.hid hbw
      clear hbw
      go_wp2_with fail
      obtain ⟨wo, rfl⟩ : ∃ wo : World, wo = wr := ⟨_, rfl⟩
      have HB1 := Lib.hid (Box2.mk e1 e2 e3 e4)
      have HB2 := Lib.hid (Box2.mk e5 e6 e7 e8)
      clear e1 e2 e3 e4 e5 e6 e7 e8
      go_loopw [5] (fun i wr => ∃ k : Nat, k ≤ b ∧ i = I ((k : Int) - 1) ∧ Hid (clA d.pts b k = clA d.pts b b) ∧ Below wo.heap.size wo wr) (fun i _ => (intOf i + 1).toNat)
      case atStart => exact ⟨b, by omega, by rfl, Lib.hid rfl, Below.refl _ _⟩
      case round =>
        obtain ⟨k, hk, rfl, hca, hbw2⟩ := hrel
        obtain ⟨e1, e2, e3, e4⟩ := HB1.out.keep hbw2
        obtain ⟨e5, e6, e7, e8⟩ := HB2.out.keep hbw2
        by_cases hk0 : 0 < k
        · obtain ⟨a, rfl⟩ : ∃ a, k = a + 1 := ⟨k - 1, by omega⟩
          obtain ⟨B, o, rfl, hBl, hcell⟩ := HC.out (by omega)
          obtain ⟨x1, _, _⟩ := hcell b hbl
          obtain ⟨_, y2, _⟩ := hcell a (by omega)
          have hww := bto HW.out hbw2
          have x1' := keep_cell hww x1
          have y2' := keep_cell hww y2
          have k0 := cell_regrown e1
          have k1 := cell_regrown x1'
          have k2 := cell_regrown y2'
          have hka : ((a + 1 : Nat) : Int) - 1 = (a : Int) := by omega
          rw [hka]
          have HW2 := Lib.hid hbw2
          have HE := Lib.hid (And.intro e5 (And.intro e6 (And.intro e7 (And.intro e8 e1))))
          clear hka x1 y2 x1' y2' hcell hbw2 hww e1 e2 e3 e4 e5 e6 e7 e8
          go_wp2_with fail
          refine wp_region_ext (by kernel_rfl) (by kernel_rfl) ?_
          repeat (first | go_big_quiet_step (fail) | quiet_step (fail))
          refine wpQuiet_nil ?_
          clear k0 k1 k2
          intro w3 hb3
          by_cases hlt : d.pts[a].hi < d.pts[b].lo
          · obtain ⟨e5, e6, e7, e8, e1⟩ := HE.out
            have e5 := keep_cell hb3 e5
            have e6 := keep_cell hb3 e6
            have e7 : w3.frozen? ⟨w.heap.size + 1, 0, none⟩ = false := by rw [(bcell hb3).2 _ _ (World.block_lt_of_cell? wr _ HE.out.1)]; exact HE.out.2.2.1
            have e8 : w3.frozen? ⟨w.heap.size + 1, 1, none⟩ = false := by rw [(bcell hb3).2 _ _ (World.block_lt_of_cell? wr _ HE.out.1)]; exact HE.out.2.2.2.1
            obtain ⟨r1, r2⟩ := res2 e5 e6
            have HW3 := Lib.hid hb3
            clear hb3 e1
            go_wp2_with fail
            have hres : clashO d = some (a, b) := by
              have h1 := hcl.out
              obtain ⟨m, hm⟩ : ∃ m, d.pts.length - b = m + 1 := ⟨d.pts.length - b - 1, by omega⟩
              have h2 := hca.out
              rw [clA, if_pos (by simpa [List.getD, hbl, show a < d.pts.length by omega] using hlt)] at h2
              rw [← h1, hm, clB, show d.pts.length - (m + 1) = b by omega, ← h2]
            refine bodyPost_ret (v := .tuple #[.agg #[I a, I b], .bool true]) (by simp [results, Try.results74, go_sem, r1, r2]) rfl ⟨by rw [hres]; rfl, ?_⟩
            exact (((bto HW.out (bto HW2.out HW3.out)).setCell (p := ⟨w.heap.size + 1, 0, none⟩) (by simp) _).setCell (p := ⟨w.heap.size + 1, 1, none⟩) (by simp) _)
          · go_wp2_with fail
            go_roundw
            case rel => exact ⟨a, by omega, by go_num, Lib.hid (by rw [← hca.out, clA, if_neg (by simpa [List.getD, hbl, show a < d.pts.length by omega] using hlt)]), bto HW2.out hb3⟩
            case measure => first | (simp [intOf]; done) | (simp [intOf]; omega)
        · obtain rfl : k = 0 := by omega
          have HW2 := Lib.hid hbw2
          clear hbw2
          have HE1 := Lib.hid (Box2.mk e1 e2 e3 e4)
          have HE2 := Lib.hid (Box2.mk e5 e6 e7 e8)
          go_wp2_with fail
          go_roundw
          case rel => exact ⟨b + 1, by omega, by go_num, Lib.hid (by
            have h1 := hcl.out
            obtain ⟨m, hm⟩ : ∃ m, d.pts.length - b = m + 1 := ⟨d.pts.length - b - 1, by omega⟩
            have h2 := hca.out
            rw [hm, clB, show d.pts.length - (m + 1) = b by omega, ← h2, clA] at h1
            rw [← h1, show d.pts.length - (b + 1) = m by omega]), HE1.out, HE2.out, bto HW.out HW2.out⟩
          case measure => first | (simp [intOf]; done) | (simp [intOf]; omega)
    · obtain rfl : b = d.pts.length := by omega
      obtain ⟨e5, e6, e7, e8⟩ := hb2
      obtain ⟨r1, r2⟩ := res2 e5 e6
      have HW := Lib.hid hbw
      clear hbw hb1
      go_wp2_with fail
      have hres : clashO d = none := by
        have h1 := hcl.out
        rw [Nat.sub_self] at h1
        exact h1.symm
      refine bodyPost_ret (v := .tuple #[.agg #[I 0, I 0], .bool false]) (by simp [results, Try.results74, go_sem, r1, r2]) rfl ⟨by rw [hres]; rfl, ?_⟩
      exact ((HW.out.setCell (p := ⟨w.heap.size + 1, 0, none⟩) (by simp) _).setCell (p := ⟨w.heap.size + 1, 1, none⟩) (by simp) _)

/-- A slice of spans. -/
def spanCells (l : List (Int × Int)) : List Value := l.flatMap fun s => [I s.1, I s.2]
def Spans (w : World) (v : Value) (l : List (Int × Int)) : Prop := Reads w 2 v l.length (spanCells l)
theorem spanCells_at : ∀ (l : List (Int × Int)) (i : Nat) (h : i < l.length), (spanCells l)[i * 2]? = some (I l[i].1) ∧ (spanCells l)[i * 2 + 1]? = some (I l[i].2)
  | [], i, h => absurd h (by simp)
  | s :: l, 0, _ => ⟨rfl, rfl⟩
  | s :: l, i + 1, h => by
    have := spanCells_at l i (by simpa using h)
    have e : spanCells (s :: l) = I s.1 :: I s.2 :: spanCells l := rfl
    rw [e, show (i + 1) * 2 = i * 2 + 2 from by omega]
    simpa using this
theorem Spans.below {w w' : World} {v : Value} {l : List (Int × Int)} (h : Spans w v l) (hb : Below w.heap.size w w') : Spans w' v l := Reads.below h hb
theorem Spans.open_ {w : World} {v : Value} {l : List (Int × Int)} (h : Spans w v l) :
    ∃ A c, v = .slice A l.length c ∧ l.length ≤ c ∧ c ≤ 9223372036854775807 ∧ (0 < l.length → ∃ b o, A = some ⟨b, o, none⟩ ∧ b < w.heap.size ∧
      ∀ j (hj : j < l.length), w.cell? ⟨b, o + j * 2, none⟩ = some (I l[j].1) ∧ w.cell? ⟨b, o + j * 2 + 1, none⟩ = some (I l[j].2)) := by
  obtain ⟨h1, A, c, h2, h3, h4, h5⟩ := h
  refine ⟨A, c, h2, h3, h4, fun hn => ?_⟩
  obtain ⟨b, o, h6, h7⟩ := h5 hn
  have hc : ∀ j (hj : j < l.length), w.cell? ⟨b, o + j * 2, none⟩ = some (I l[j].1) ∧ w.cell? ⟨b, o + j * 2 + 1, none⟩ = some (I l[j].2) := fun j hj => by
    obtain ⟨e1, e2⟩ := spanCells_at l j hj
    exact ⟨h7 _ _ e1, by have := h7 _ _ e2; simpa [Nat.add_assoc] using this⟩
  exact ⟨b, o, h6, World.block_lt_of_cell? w _ (hc 0 hn).1, hc⟩

/-- What 'lost' says. -/
def lostF (l : List (Int × Int)) (f t : Nat) : Int × Int := if f = t then (0, 0) else (max 0 ((l.getD f (0, 0)).1 - (l.getD t (0, 0)).2), (l.getD f (0, 0)).2 - (l.getD t (0, 0)).1)

set_option maxRecDepth 20000 in
set_option maxHeartbeats 1000000 in
theorem lost_any (v : Value) (l : List (Int × Int)) (f t : Int) (w : World) (hv : Spans w v l) (hf0 : 0 ≤ f) (ht0 : 0 ≤ t) (hf : f < l.length) (ht : t < l.length) (hbd : ∀ s ∈ l, (0 ≤ s.1 ∧ s.1 ≤ 99) ∧ 0 ≤ s.2 ∧ s.2 ≤ 99) :
    Calls Try.prog 78 #[v, I f, I t] w fun e w' => e = .returned (.agg #[I (lostF l f.toNat t.toNat).1, I (lostF l f.toNat t.toNat).2]) ∧ Below w.heap.size w w' := by
  obtain ⟨f, rfl⟩ := Int.eq_ofNat_of_zero_le hf0
  obtain ⟨t, rfl⟩ := Int.eq_ofNat_of_zero_le ht0
  simp only [Int.toNat_natCast]
  obtain ⟨A, c, rfl, hnc, hcm, hcell⟩ := hv.open_
  obtain ⟨B, o, rfl, hBl, hcell⟩ := hcell (by omega)
  have hf' : f < l.length := by omega
  have ht' : t < l.length := by omega
  obtain ⟨x1, x2⟩ := hcell f hf'
  obtain ⟨y1, y2⟩ := hcell t ht'
  obtain ⟨⟨b1, b2⟩, b3, b4⟩ := hbd _ (List.getElem_mem hf')
  obtain ⟨⟨b5, b6⟩, b7, b8⟩ := hbd _ (List.getElem_mem ht')
  have hE : lostF l f t = if f = t then (0, 0) else (max 0 (l[f].1 - l[t].2), l[f].2 - l[t].1) := by simp [lostF, List.getD, hf', ht']
  rw [hE]
  have hres := Box2.new w (I 0) (I 0) 34
  clear hE hcell hbd hv
  by_cases hft : f = t
  · subst hft
    rw [if_pos rfl]
    obtain ⟨r1, r2⟩ := res2 hres.c0 hres.c1
    clear x1 x2 y1 y2
    go_enter Try.func78, Try.ntmps78
    go_wp2_with fail
    refine bodyPost_ret (v := .agg #[I 0, I 0]) (by simp [results, Try.results78, go_sem]) rfl ⟨rfl, ?_⟩
    repeat (first | exact Below.refl _ _ | refine Below.setCell ?_ (by simp) _ | exact (Below.refl _ _).alloc (Nat.le_refl _) _)
  · rw [if_neg hft]
    have hft' : ((f : Int) == (t : Int)) = false := by simp; omega
    clear hft
    go_enter Try.func78, Try.ntmps78
    have k0 := cell_regrown (box_old w (.cells #[I 0, I 0] 34) x1)
    have k1 := cell_regrown (box_old w (.cells #[I 0, I 0] 34) x2)
    have k2 := cell_regrown (box_old w (.cells #[I 0, I 0] 34) y1)
    have k3 := cell_regrown (box_old w (.cells #[I 0, I 0] 34) y2)
    go_wp2_with fail
    refine wp_region_seg [] [0, 1, 2, 3, 4, 5, 6, 7, 8, 9, 10, 11, 12, 13, 14, 15, 16, 17, 18, 19, 20, 21, 22, 23] [24] 24 (by kernel_rfl) (by kernel_rfl) ?_
    intro KQ hKQ w1 hb1
    have k0 := cell_regrown (keep_cell hb1 (box_old w (.cells #[I 0, I 0] 34) x1))
    have k1 := cell_regrown (keep_cell hb1 (box_old w (.cells #[I 0, I 0] 34) x2))
    have k2 := cell_regrown (keep_cell hb1 (box_old w (.cells #[I 0, I 0] 34) y1))
    have k3 := cell_regrown (keep_cell hb1 (box_old w (.cells #[I 0, I 0] 34) y2))
    have hres := hres.keep hb1
    by_cases hm : l[f].1 - l[t].2 ≤ 0
    · refine seg_last ?_
      simp only [opsAt, List.filterMap_cons, List.filterMap_nil, List.getElem?_toArray, List.getElem?_cons_succ, List.getElem?_cons_zero]
      repeat (first | go_big_quiet_step (fail) | quiet_step (fail))
      refine wpQuiet_nil ?_
      obtain ⟨r1, r2⟩ := res2 hres.c0 hres.c1
      obtain ⟨_, _, r3, r4⟩ := hres
      go_wp2_with fail
      refine bodyPost_ret (v := .agg #[I 0, I (l[f].2 - l[t].1)]) (by simp [results, Try.results78, go_sem, r1, r2]) rfl ⟨by rw [show max 0 (l[f].1 - l[t].2) = 0 by omega], ?_⟩
      exact ((bto ((Below.refl w.heap.size w).alloc (Nat.le_refl _) _) hb1).setCell (p := ⟨w.heap.size, 0, none⟩) (by simp) _).setCell (p := ⟨w.heap.size, 1, none⟩) (by simp) _
    · refine seg_last ?_
      simp only [opsAt, List.filterMap_cons, List.filterMap_nil, List.getElem?_toArray, List.getElem?_cons_succ, List.getElem?_cons_zero]
      repeat (first | go_big_quiet_step (fail) | quiet_step (fail))
      refine wpQuiet_nil ?_
      obtain ⟨r1, r2⟩ := res2 hres.c0 hres.c1
      obtain ⟨_, _, r3, r4⟩ := hres
      go_wp2_with fail
      refine bodyPost_ret (v := .agg #[I (l[f].1 - l[t].2), I (l[f].2 - l[t].1)]) (by simp [results, Try.results78, go_sem, r1, r2]) rfl ⟨by rw [show max 0 (l[f].1 - l[t].2) = l[f].1 - l[t].2 by omega], ?_⟩
      exact ((bto ((Below.refl w.heap.size w).alloc (Nat.le_refl _) _) hb1).setCell (p := ⟨w.heap.size, 0, none⟩) (by simp) _).setCell (p := ⟨w.heap.size, 1, none⟩) (by simp) _
end Go.Proofs.Ytbddaemekgflmaa
