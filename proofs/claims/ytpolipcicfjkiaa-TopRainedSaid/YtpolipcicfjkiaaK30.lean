/- Walks of clash, Clash, lost. -/
import Derived.Test.YtpolipcicfjkiaaK29
import Derived.Test.YtpolipcicfjkiaaK25
import Derived.Deep.AppendLies
import Derived.Shelf.Abstract
namespace Go.Proofs.Ytpolipcicfjkiaa
open Go.RowKit Go.Sort

/-- A struct of two integers in the call's own box: what two stores leave. -/
theorem res2 {w : World} {g : Nat} {u0 u1 : Value} (h0 : w.cell? ⟨g, 0, none⟩ = some u0) (h1 : w.cell? ⟨g, 1, none⟩ = some u1) :
    (∀ v1, (w.setCell ⟨g, 0, none⟩ v1).cell? ⟨g, 0, none⟩ = some v1) ∧ ∀ v1 v2, ((w.setCell ⟨g, 0, none⟩ v1).setCell ⟨g, 1, none⟩ v2).cell? ⟨g, 1, none⟩ = some v2 :=
  ⟨fun _ => World.cell?_setCell_same _ _ _ h0, fun _ _ => World.cell?_setCell_same _ _ _ (by rw [World.cell?_setCell_other _ _ _ _ (by simp)]; exact h1)⟩

/-- A box of two cells, that may be written. -/
structure Box2 (w : World) (B : Nat) (u0 u1 : Value) : Prop where
  c0 : w.cell? ⟨B, 0, none⟩ = some u0
  c1 : w.cell? ⟨B, 1, none⟩ = some u1
  f0 : w.frozen? ⟨B, 0, none⟩ = false
  f1 : w.frozen? ⟨B, 1, none⟩ = false
theorem Box2.lt {w : World} {B : Nat} {u0 u1 : Value} (h : Box2 w B u0 u1) : B < w.heap.size := World.block_lt_of_cell? w _ h.c0
theorem Box2.keep {w w' : World} {B : Nat} {u0 u1 : Value} (h : Box2 w B u0 u1) (hb : Below w.heap.size w w') : Box2 w' B u0 u1 :=
  ⟨keep_cell hb h.c0, keep_cell hb h.c1, by rw [(bcell hb).2 _ _ h.lt]; exact h.f0, by rw [(bcell hb).2 _ _ h.lt]; exact h.f1⟩
theorem Box2.new (w : World) (u0 u1 : Value) (T : TypeId) : Box2 (w.alloc (.cells #[u0, u1] T)) w.heap.size u0 u1 :=
  ⟨box_cell w _ _ 0 rfl, box_cell w _ _ 1 rfl, by simp [go_sem], by simp [go_sem]⟩
theorem Box2.old {w : World} {B : Nat} {u0 u1 : Value} (h : Box2 w B u0 u1) (o : Obj) : Box2 (w.alloc o) B u0 u1 := h.keep ((Below.refl _ _).alloc (Nat.le_refl _) _)
theorem Box2.at_ {w : World} {B B' : Nat} {u0 u1 : Value} (h : Box2 w B u0 u1) (e : B = B') : Box2 w B' u0 u1 := e ▸ h

def pairV : Option (Nat × Nat) → Value
  | none => .agg #[I 0, I 0]
  | some (a, b) => .agg #[I a, I b]

set_option maxRecDepth 20000 in
set_option maxHeartbeats 2000000 in
theorem clash_any (v : Value) (d : DLine) (w : World) (hv : LineAt w v d) (hlen : d.pts.length ≤ 1000) :
    Calls PA.prog 55 #[v] w fun e w' => e = .returned (.tuple #[pairV (clashO d), .bool (clashO d).isSome]) ∧ Below w.heap.size w w' := by
  obtain ⟨pv, ov, rfl, hp, ho⟩ := hv
  obtain ⟨A, c, rfl, hnc, hcm, hcell⟩ := hp.open_
  clear hp ho
  have HC := Lib.hid hcell
  clear hcell
  go_enter PA.func55, Try.ntmps55
  go_wp2_with fail
  go_loopw [9] (fun i wr => ∃ b : Nat, b ≤ d.pts.length ∧ i = I b ∧ Hid (clB d.pts (d.pts.length - b) = clashO d) ∧ Box2 wr w.heap.size (.slice A d.pts.length c) ov ∧ Box2 wr (w.heap.size + 1) (I 0) (I 0) ∧ Below w.heap.size w wr) (fun i _ => d.pts.length - (intOf i).toNat)
  case atStart => exact ⟨0, by omega, rfl, Lib.hid rfl, (Box2.new w _ _ _).old _, (Box2.new _ _ _ _).at_ (by simp), ((Below.refl _ _).alloc (Nat.le_refl _) _).alloc (by simp) _⟩
  case round =>
    obtain ⟨b, hb, rfl, hcl, hb1, hb2, hbw⟩ := hrel
    by_cases hbl : b < d.pts.length
    · obtain ⟨e1, e2, e3, e4⟩ := hb1
      obtain ⟨e5, e6, e7, e8⟩ := hb2
      have HW := Lib.hid hbw
      clear hbw
      go_wp2_with fail
      obtain ⟨wo, rfl⟩ : ∃ wo : World, wo = wr := ⟨_, rfl⟩
      have HB1 := Lib.hid (Box2.mk e1 e2 e3 e4)
      have HB2 := Lib.hid (Box2.mk e5 e6 e7 e8)
      clear e1 e2 e3 e4 e5 e6 e7 e8
      go_loopw [5] (fun i wr => ∃ k : Nat, k ≤ b ∧ i = I ((k : Int) - 1) ∧ Hid (clA d.pts b k = clA d.pts b b) ∧ Below wo.heap.size wo wr) (fun i _ => (intOf i + 1).toNat)
      case atStart => exact ⟨b, by omega, by rfl, Lib.hid rfl, Below.refl _ _⟩
      case round =>
        obtain ⟨k, hk, rfl, hca, hbw2⟩ := hrel
        obtain ⟨e1, e2, e3, e4⟩ := HB1.out.keep hbw2
        obtain ⟨e5, e6, e7, e8⟩ := HB2.out.keep hbw2
        by_cases hk0 : 0 < k
        · obtain ⟨a, rfl⟩ : ∃ a, k = a + 1 := ⟨k - 1, by omega⟩
          obtain ⟨B, o, rfl, hBl, hcell⟩ := HC.out (by omega)
          obtain ⟨x1, _, _⟩ := hcell b hbl
          obtain ⟨_, y2, _⟩ := hcell a (by omega)
          have hww := bto HW.out hbw2
          have x1' := keep_cell hww x1
          have y2' := keep_cell hww y2
          have k0 := cell_regrown e1
          have k1 := cell_regrown x1'
          have k2 := cell_regrown y2'
          have hka : ((a + 1 : Nat) : Int) - 1 = (a : Int) := by omega
          rw [hka]
          have HW2 := Lib.hid hbw2
          have HE := Lib.hid (And.intro e5 (And.intro e6 (And.intro e7 (And.intro e8 e1))))
          clear hka x1 y2 x1' y2' hcell hbw2 hww e1 e2 e3 e4 e5 e6 e7 e8
          go_wp2_with fail
          refine wp_region_ext (by kernel_rfl) (by kernel_rfl) ?_
          repeat (first | go_big_quiet_step (fail) | quiet_step (fail))
          refine wpQuiet_nil ?_
          clear k0 k1 k2
          intro w3 hb3
          by_cases hlt : d.pts[a].hi < d.pts[b].lo
          · obtain ⟨e5, e6, e7, e8, e1⟩ := HE.out
            have e5 := keep_cell hb3 e5
            have e6 := keep_cell hb3 e6
            have e7 : w3.frozen? ⟨w.heap.size + 1, 0, none⟩ = false := by rw [(bcell hb3).2 _ _ (World.block_lt_of_cell? wr _ HE.out.1)]; exact HE.out.2.2.1
            have e8 : w3.frozen? ⟨w.heap.size + 1, 1, none⟩ = false := by rw [(bcell hb3).2 _ _ (World.block_lt_of_cell? wr _ HE.out.1)]; exact HE.out.2.2.2.1
            obtain ⟨r1, r2⟩ := res2 e5 e6
            have HW3 := Lib.hid hb3
            clear hb3 e1
            go_wp2_with fail
            have hres : clashO d = some (a, b) := by
              have h1 := hcl.out
              obtain ⟨m, hm⟩ : ∃ m, d.pts.length - b = m + 1 := ⟨d.pts.length - b - 1, by omega⟩
              have h2 := hca.out
              rw [clA, if_pos (by simpa [List.getD, hbl, show a < d.pts.length by omega] using hlt)] at h2
              rw [← h1, hm, clB, show d.pts.length - (m + 1) = b by omega, ← h2]
            refine bodyPost_ret (v := .tuple #[.agg #[I a, I b], .bool true]) (by simp [results, Try.results55, go_sem, r1, r2]) rfl ⟨by rw [hres]; rfl, ?_⟩
            exact (((bto HW.out (bto HW2.out HW3.out)).setCell (p := ⟨w.heap.size + 1, 0, none⟩) (by simp) _).setCell (p := ⟨w.heap.size + 1, 1, none⟩) (by simp) _)
          · go_wp2_with fail
            go_roundw
            case rel => exact ⟨a, by omega, by go_num, Lib.hid (by rw [← hca.out, clA, if_neg (by simpa [List.getD, hbl, show a < d.pts.length by omega] using hlt)]), bto HW2.out hb3⟩
            case measure => first | (simp [intOf]; done) | (simp [intOf]; omega)
        · obtain rfl : k = 0 := by omega
          have HW2 := Lib.hid hbw2
          clear hbw2
          have HE1 := Lib.hid (Box2.mk e1 e2 e3 e4)
          have HE2 := Lib.hid (Box2.mk e5 e6 e7 e8)
          go_wp2_with fail
          go_roundw
          case rel => exact ⟨b + 1, by omega, by go_num, Lib.hid (by
            have h1 := hcl.out
            obtain ⟨m, hm⟩ : ∃ m, d.pts.length - b = m + 1 := ⟨d.pts.length - b - 1, by omega⟩
            have h2 := hca.out
            rw [hm, clB, show d.pts.length - (m + 1) = b by omega, ← h2, clA] at h1
            rw [← h1, show d.pts.length - (b + 1) = m by omega]), HE1.out, HE2.out, bto HW.out HW2.out⟩
          case measure => first | (simp [intOf]; done) | (simp [intOf]; omega)
    · obtain rfl : b = d.pts.length := by omega
      obtain ⟨e5, e6, e7, e8⟩ := hb2
      obtain ⟨r1, r2⟩ := res2 e5 e6
      have HW := Lib.hid hbw
      clear hbw hb1
      go_wp2_with fail
      have hres : clashO d = none := by
        have h1 := hcl.out
        rw [Nat.sub_self] at h1
        exact h1.symm
      refine bodyPost_ret (v := .tuple #[.agg #[I 0, I 0], .bool false]) (by simp [results, Try.results55, go_sem, r1, r2]) rfl ⟨by rw [hres]; rfl, ?_⟩
      exact ((HW.out.setCell (p := ⟨w.heap.size + 1, 0, none⟩) (by simp) _).setCell (p := ⟨w.heap.size + 1, 1, none⟩) (by simp) _)

/-- A slice of spans. -/
def spanCells (l : List (Int × Int)) : List Value := l.flatMap fun s => [I s.1, I s.2]
def Spans (w : World) (v : Value) (l : List (Int × Int)) : Prop := Reads w 2 v l.length (spanCells l)
theorem spanCells_at : ∀ (l : List (Int × Int)) (i : Nat) (h : i < l.length), (spanCells l)[i * 2]? = some (I l[i].1) ∧ (spanCells l)[i * 2 + 1]? = some (I l[i].2)
  | [], i, h => absurd h (by simp)
  | s :: l, 0, _ => ⟨rfl, rfl⟩
  | s :: l, i + 1, h => by
    have := spanCells_at l i (by simpa using h)
    have e : spanCells (s :: l) = I s.1 :: I s.2 :: spanCells l := rfl
    rw [e, show (i + 1) * 2 = i * 2 + 2 from by omega]
    simpa using this
theorem Spans.below {w w' : World} {v : Value} {l : List (Int × Int)} (h : Spans w v l) (hb : Below w.heap.size w w') : Spans w' v l := Reads.below h hb
theorem Spans.open_ {w : World} {v : Value} {l : List (Int × Int)} (h : Spans w v l) :
    ∃ A c, v = .slice A l.length c ∧ l.length ≤ c ∧ c ≤ 9223372036854775807 ∧ (0 < l.length → ∃ b o, A = some ⟨b, o, none⟩ ∧ b < w.heap.size ∧
      ∀ j (hj : j < l.length), w.cell? ⟨b, o + j * 2, none⟩ = some (I l[j].1) ∧ w.cell? ⟨b, o + j * 2 + 1, none⟩ = some (I l[j].2)) := by
  obtain ⟨h1, A, c, h2, h3, h4, h5⟩ := h
  refine ⟨A, c, h2, h3, h4, fun hn => ?_⟩
  obtain ⟨b, o, h6, h7⟩ := h5 hn
  have hc : ∀ j (hj : j < l.length), w.cell? ⟨b, o + j * 2, none⟩ = some (I l[j].1) ∧ w.cell? ⟨b, o + j * 2 + 1, none⟩ = some (I l[j].2) := fun j hj => by
    obtain ⟨e1, e2⟩ := spanCells_at l j hj
    exact ⟨h7 _ _ e1, by have := h7 _ _ e2; simpa [Nat.add_assoc] using this⟩
  exact ⟨b, o, h6, World.block_lt_of_cell? w _ (hc 0 hn).1, hc⟩

/-- What 'lost' says. -/
def lostF (l : List (Int × Int)) (f t : Nat) : Int × Int := if f = t then (0, 0) else (max 0 ((l.getD f (0, 0)).1 - (l.getD t (0, 0)).2), (l.getD f (0, 0)).2 - (l.getD t (0, 0)).1)

end Go.Proofs.Ytpolipcicfjkiaa
/- Walk of flows. -/
namespace Go.Proofs.Ytpolipcicfjkiaa
open Go.RowKit Go.Sort Go.Shelf
attribute [local go_sem] Oper.semAt_some

theorem Try.info30 : (PA.prog.info? 30).map (fun i => (i.zero, i.size, i.bytes)) = some (some (.agg #[.int .i64 0, .int .i64 0]), 2, 16) := by kernel_rfl

/-- What 'flows' returns: the spans, or an error. -/
def flowsR (d : DLine) (is : Bool) : List (Int × Int) × Int :=
  if askE d is = 0 then (if (clashO d).isSome then ([], 3) else (flowsL d, 0)) else ([], askE d is)
def RetSpans (w : World) (l : List (Int × Int)) (err : Int) (e : Ending) (w' : World) : Prop := ∃ v, e = .returned (.tuple #[v, I err]) ∧ Spans w' v l ∧ Below w.heap.size w w'
theorem Spans.nil (w : World) : Spans w (.slice none 0 0) [] := ⟨rfl, none, 0, rfl, by simp, by omega, fun h => absurd h (by simp)⟩
theorem Spans.of_own {w : World} {base e : Nat} {v : Value} {n : Nat} {l : List (Int × Int)} (h : w.ownsRow base e 2 v n (spanCells l)) (hl : l.length = n) : Spans w v l := by
  subst hl
  refine ⟨h.1, ?_⟩
  rcases h.2 with ⟨rfl, h0⟩ | ⟨g, cap, cur, rfl, hb, hg, h1, h2, h3, h4⟩
  · exact ⟨none, 0, by rw [h0], by omega, by omega, fun h => by omega⟩
  · refine ⟨some ⟨g, 0, none⟩, cap, rfl, h1, h2, fun hn => ⟨g, 0, rfl, fun j u hu => ?_⟩⟩
    have := h.cells (g := g) rfl j u hu
    have e : (⟨g, 0, none⟩ : Addr).add j = ⟨g, 0 + j, none⟩ := by unfold Addr.add; split <;> simp_all
    rwa [e] at this
def hiTo (d : DLine) (k : Nat) : List (Int × Int) := (List.range k).map fun i => ((0 : Int), hiPre d.pts (i + 1))
theorem hiTo_succ (d : DLine) (k : Nat) : hiTo d (k + 1) = hiTo d k ++ [(0, hiPre d.pts (k + 1))] := by simp [hiTo, List.range_succ]
theorem spanCells_append (l l' : List (Int × Int)) : spanCells (l ++ l') = spanCells l ++ spanCells l' := by simp [spanCells]

/-- One round of the loop from the last point on: the lower end so far, and the spans. -/
def stepL (d : DLine) (s : Int × List (Int × Int)) (x : Fin d.pts.length) : Int × List (Int × Int) := (max s.1 d.pts[x.1].lo, s.2.set x.1 (max s.1 d.pts[x.1].lo, (s.2.getD x.1 (0, 0)).2))
def foldL (d : DLine) (pre : List (Fin d.pts.length)) : Int × List (Int × Int) := pre.foldl (stepL d) (0, hiTo d d.pts.length)
theorem foldL_snoc (d : DLine) (pre : List (Fin d.pts.length)) (x : Fin d.pts.length) : foldL d (pre ++ [x]) = stepL d (foldL d pre) x := by simp [foldL, List.foldl_append]
theorem foldL_length (d : DLine) (pre : List (Fin d.pts.length)) : (foldL d pre).2.length = d.pts.length := by
  have key : ∀ (pre : List (Fin d.pts.length)) (s : Int × List (Int × Int)), (pre.foldl (stepL d) s).2.length = s.2.length := by
    intro pre
    induction pre with
    | nil => intro s; rfl
    | cons x pre ih => intro s; rw [List.foldl_cons, ih]; simp [stepL]
  rw [foldL, key]; simp [hiTo]
theorem foldL_bd (d : DLine) (hv : valid d = true) (pre : List (Fin d.pts.length)) : 0 ≤ (foldL d pre).1 ∧ (foldL d pre).1 ≤ 99 := by
  have key : ∀ (pre : List (Fin d.pts.length)) (s : Int × List (Int × Int)), 0 ≤ s.1 ∧ s.1 ≤ 99 → 0 ≤ (pre.foldl (stepL d) s).1 ∧ (pre.foldl (stepL d) s).1 ≤ 99 := by
    intro pre
    induction pre with
    | nil => intro s h; exact h
    | cons x pre ih =>
      intro s h
      rw [List.foldl_cons]
      apply ih
      have := (valid_spec hv).2.2.1 _ (List.getElem_mem x.2)
      simp only [stepL]
      omega
  exact key pre _ (by simp)
theorem flowsTo_all (d : DLine) : flowsTo d 0 = flowsL d := by simp [flowsTo, flowsL, flowAt]
theorem foldL_bk (d : DLine) : ∀ k, k ≤ d.pts.length → foldL d (bk d.pts.length k) = (loSuf d.pts (d.pts.length - k), flowsTo d (d.pts.length - k))
  | 0, _ => by
    have h1 : loSuf d.pts (d.pts.length - 0) = 0 := by unfold loSuf; rw [List.drop_eq_nil_of_le (by omega)]; rfl
    have h2 : flowsTo d (d.pts.length - 0) = hiTo d d.pts.length := by
      unfold flowsTo hiTo
      apply List.map_congr_left
      intro i hi
      have := List.mem_range.1 hi
      rw [if_neg (by omega)]
    rw [h1, h2]; rfl
  | k + 1, h => by
    have ih := foldL_bk d k (by omega)
    rw [bk_succ _ _ (by omega), foldL_snoc, ih]
    have hl : d.pts.length - (k + 1) < d.pts.length := by omega
    have e1 : loSuf d.pts (d.pts.length - (k + 1)) = max (loSuf d.pts (d.pts.length - k)) d.pts[d.pts.length - (k + 1)].lo := by
      have := loSuf_succ d.pts (d.pts.length - (k + 1)) hl
      rwa [show d.pts.length - (k + 1) + 1 = d.pts.length - k by omega] at this
    have e2 : d.pts.length - 1 - k = d.pts.length - (k + 1) := by omega
    simp only [stepL, e2]
    rw [e1]
    congr 1
    apply List.ext_getElem
    · simp [flowsTo]
    · intro i h1 h2
      have hi : i < d.pts.length := by simpa [flowsTo] using h2
      rw [List.getElem_set]
      by_cases hc : d.pts.length - (k + 1) = i
      · subst hc
        rw [if_pos rfl]
        have e3 : (flowsTo d (d.pts.length - k)).getD (d.pts.length - (k + 1)) (0, 0) = (if d.pts.length - k ≤ d.pts.length - (k + 1) then loSuf d.pts (d.pts.length - (k + 1)) else 0, hiPre d.pts (d.pts.length - (k + 1) + 1)) := by
          simp only [flowsTo, List.getD, List.getElem?_map, List.getElem?_range hl, Option.map_some, Option.getD_some]
        rw [e3]
        simp only [flowsTo, List.getElem_map, List.getElem_range, Nat.le_refl, if_true, e1]
      · rw [if_neg hc]
        simp only [flowsTo, List.getElem_map, List.getElem_range]
        by_cases hc2 : d.pts.length - k ≤ i
        · rw [if_pos hc2, if_pos (by omega)]
        · rw [if_neg hc2, if_neg (by omega)]
theorem spanCells_set : ∀ (l : List (Int × Int)) (i : Nat) (s : Int × Int), i < l.length → (spanCells l).set (i * 2) (I s.1) = spanCells (l.set i (s.1, (l.getD i (0, 0)).2))
  | [], i, s, h => absurd h (by simp)
  | x :: l, 0, s, _ => rfl
  | x :: l, i + 1, s, h => by
    have ih := spanCells_set l i s (by simpa using h)
    have e : ∀ (y : Int × Int) (l : List (Int × Int)), spanCells (y :: l) = I y.1 :: I y.2 :: spanCells l := fun _ _ => rfl
    rw [e, show (i + 1) * 2 = i * 2 + 1 + 1 from by omega, List.set_cons_succ, List.set_cons_succ, ih, List.set_cons_succ, e]
    simp [List.getD]

/-- The boxed point of a round. -/
def Box3 (W : World) (B : Nat) (p : Pt) : Prop := W.heap[B]? = some (.cells #[I p.lo, I p.hi, I p.cost] 39 (0, 0))

set_option maxRecDepth 20000 in
set_option maxHeartbeats 4000000 in
theorem flows_any (v : Value) (d : DLine) (is : Bool) (w : World) (hv : LineAt w v d) (hlen : d.odds.length ≤ 1000) (hlen' : d.pts.length ≤ 1000) :
    Calls PA.prog 38 #[v, .bool is] w (RetSpans w (flowsR d is).1 (flowsR d is).2) := by
  obtain ⟨i0, hi, hz0, hz1, hz2'⟩ := info_parts Try.info30
  have HV := Lib.hid hv
  obtain ⟨pv, ov, rfl, hp, ho⟩ := hv
  obtain ⟨A, c, rfl, hnc, hcm, hcell⟩ := hp.open_
  have HP := Lib.hid hp
  have HC := Lib.hid hcell
  have hb0 : ∀ x, Below w.heap.size w (w.alloc x) := fun x => (Below.refl _ _).alloc (Nat.le_refl _) _
  have B0 := Box2.new w (.slice A d.pts.length c) ov 28
  clear hp ho hcell
  by_cases h0 : askE d is = 0
  · obtain ⟨hvd, rfl⟩ := askE_ok h0
    have HVD := Lib.hid hvd
    have hn := (valid_spec hvd).1
    have hpl := (valid_spec hvd).2.1
    have hpl8 : d.pts.length ≤ 8 := by omega
    have hpos : 0 < d.pts.length := by omega
    cases hcl : clashO d with
    | some ab =>
      have hR : flowsR d true = ([], 3) := by unfold flowsR; rw [if_pos h0, hcl]; rfl
      rw [hR]
      have cl : ∀ W, LineAt W (.agg #[.slice A d.pts.length c, ov]) d → Calls PA.prog 55 #[.agg #[.slice A d.pts.length c, ov]] W fun e w' => e = .returned (.tuple #[.agg #[I ab.1, I ab.2], .bool true]) ∧ Below W.heap.size W w' := fun W hW => by
        have h := clash_any _ d W hW hlen'
        rw [hcl] at h
        exact h
      clear hR hvd hpl hcl
      refine calls_of_wp_marks PA.func38 rfl ?_
      simp only [Try.ntmps38, List.size_toArray, List.length_cons, List.length_nil, Nat.reduceAdd, Nat.reduceSub, Array.replicate_succ, Array.replicate_zero, List.push_toArray, List.append_toArray, List.nil_append, List.cons_append]
      go_wp2_with (first | (go_at_call 54; refine (ask_any _ d _ _ (HV.out.below (hb0 _)) hlen).mono ?_; rintro e w1 ⟨rfl, hb1⟩; obtain ⟨x0, x1, x2, x3⟩ := B0.keep hb1; have HB1 := Lib.hid hb1; clear hb1) | (go_at_call 55; refine (cl _ (HV.out.below (bto (hb0 _) HB1.out))).mono ?_; rintro e w2 ⟨rfl, hb2⟩; obtain ⟨y0, y1, y2, y3⟩ := (Box2.mk x0 x1 x2 x3).keep hb2; have hz2 := (Box2.mk y0 y1 y2 y3).lt; have hz3 : w.heap.size < w2.heap.size + 1 := (by omega); have HB2 := Lib.hid hb2; clear hb2 x0 x1 x2 x3 cl))
      refine ⟨_, results_tmp2 rfl _ _ _, _, rfl, Spans.nil _, ?_⟩
      exact (bto (hb0 _) (bto HB1.out HB2.out)).trans (by repeat (first | exact Below.refl _ _ | refine Below.setCell ?_ (by have := HB1.out.size; have := HB2.out.size; simp at *; omega) _ | exact (Below.refl _ _).alloc (by have := HB1.out.size; have := HB2.out.size; simp at *; omega) _))
    | none =>
      have hR : flowsR d true = (flowsL d, 0) := by unfold flowsR; rw [if_pos h0, hcl]; rfl
      rw [hR]
      have cl : ∀ W, LineAt W (.agg #[.slice A d.pts.length c, ov]) d → Calls PA.prog 55 #[.agg #[.slice A d.pts.length c, ov]] W fun e w' => e = .returned (.tuple #[.agg #[I 0, I 0], .bool false]) ∧ Below W.heap.size W w' := fun W hW => by
        have h := clash_any _ d W hW hlen'
        rw [hcl] at h
        exact h
      clear hR hvd hpl hcl
      refine calls_of_wp_marks PA.func38 rfl ?_
      simp only [Try.ntmps38, List.size_toArray, List.length_cons, List.length_nil, Nat.reduceAdd, Nat.reduceSub, Array.replicate_succ, Array.replicate_zero, List.push_toArray, List.append_toArray, List.nil_append, List.cons_append]
      go_wp2_with (first | (go_at_call 54; refine (ask_any _ d _ _ (HV.out.below (hb0 _)) hlen).mono ?_; rintro e w1 ⟨rfl, hb1⟩; obtain ⟨x0, x1, x2, x3⟩ := B0.keep hb1; have HB1 := Lib.hid hb1; clear hb1) | (go_at_call 55; refine (cl _ (HV.out.below (bto (hb0 _) HB1.out))).mono ?_; rintro e w2 ⟨rfl, hb2⟩; obtain ⟨y0, y1, y2, y3⟩ := (Box2.mk x0 x1 x2 x3).keep hb2; have hz2 := (Box2.mk y0 y1 y2 y3).lt; have hz3 : w.heap.size < w2.heap.size + 1 := (by omega); have HB2 := Lib.hid hb2; clear hb2 x0 x1 x2 x3 cl))
      go_loopw [10, 31] (fun m i wr => ∃ k : Nat, k ≤ d.pts.length ∧ i = I k ∧ m = I (hiPre d.pts k) ∧ ∃ v, Boxed wr (w2.heap.size + 1) 72 v ∧ wr.ownsRow w2.heap.size 30 2 v k (spanCells (hiTo d k)) ∧ Below w2.heap.size w2 wr) (fun _ i _ => d.pts.length - (intOf i).toNat)
      case atStart => exact ⟨0, by omega, rfl, rfl, _, by have := Boxed.new (w2.alloc (.cells #[I 0, I 0] 98)) 72 (.slice none 0 0); simpa using this, World.ownsRow_nil _ _ _ _, ((Below.refl _ _).alloc (Nat.le_refl _) _).alloc (by simp) _⟩
      case round =>
        obtain ⟨k, hk, rfl, rfl, v, hbx, hown, hbw⟩ := hrel
        obtain ⟨z0, z1, z2, z3⟩ := (Box2.mk y0 y1 y2 y3).keep hbw
        have hzr := hbx.lt
        by_cases hkl : k < d.pts.length
        · obtain ⟨b, o, rfl, hbl, hcell⟩ := HC.out (by omega)
          obtain ⟨p1, p2, p3⟩ := hcell k hkl
          have hwk := bto (hb0 (.cells #[.slice (some ⟨b, o, none⟩) d.pts.length c, ov] 28)) (bto HB1.out (bto HB2.out hbw))
          have p1 := keep_cell hwk p1
          have p2 := keep_cell hwk p2
          have p3 := keep_cell hwk p3
          have hbr := World.block_lt_of_cell? wr _ p1
          have hxc := hbx.cell
          have hxf := hbx.frozen
          have HS := Lib.hid (hiPre_succ d.pts k hkl)
          have HNR := Lib.hid (hbx.not_row (by decide) hown)
          have h02 : 0 < 2 := by decide
          have HBX := Lib.hid hbx
          have HBW := Lib.hid hbw
          clear hbx hbw hwk hcell
          by_cases hmin : hiPre d.pts k ≤ d.pts[k].hi
          · have HNEW := Lib.hid (show ∀ j u, [I 0, I (hiPre d.pts k)][j]? = some u → ((wr.alloc (.cells #[I d.pts[k].lo, I d.pts[k].hi, I d.pts[k].cost] 39)).alloc (.cells #[I 0, I (hiPre d.pts k)] 30)).cell? ((⟨wr.heap.size + 1, 0, none⟩ : Addr).add j) = some u from
              World.news_of_block (cs := #[I 0, I (hiPre d.pts k)]) (t := 30) (fr := (0, 0)) (by have := heap_alloc_new (wr.alloc (.cells #[I d.pts[k].lo, I d.pts[k].hi, I d.pts[k].cost] 39)) (.cells #[I 0, I (hiPre d.pts k)] 30); rwa [World.size_alloc] at this))
            have HBS : w2.heap.size ≤ ((wr.alloc (.cells #[I d.pts[k].lo, I d.pts[k].hi, I d.pts[k].cost] 39)).alloc (.cells #[I 0, I (hiPre d.pts k)] 30)).heap.size := by have := HBW.out.size; simp; omega
            go_wp2_with (at_builtin; refine wpList_append_own _ rfl _ _ 72 rfl w2.heap.size 30 i0 (.agg #[.int .i64 0, .int .i64 0]) 2 16 Try.underlying72 hi hz0 hz1 hz2' rfl h02 _ _ _ rfl ((hown.alloc _).alloc _) ⟨wr.heap.size + 1, 0, none⟩ 1 1 [I 0, I (hiPre d.pts k)] rfl rfl ?_ ?_ ?_ ?_ ?_ ?_; exact HNEW.out; (simp [Value.oneCell']); (simp only [maxLen]; omega); omega; exact HBS; intro v' w4 hown' hgrow _; obtain ⟨g', cap', rfl⟩ := ownsRow_succ hown'; have hv1 := Boxed.kept ((HBX.out.alloc _).alloc _) hgrow HNR.out; have hc4 := hv1.cell; have hf4 := hv1.frozen; have HV1 := Lib.hid hv1; clear hv1)
            go_roundw
            case rel => exact ⟨k + 1, by omega, by go_num, by rw [HS.out]; simp; omega, _, HV1.out.set _, by
              have h1 := hown'.kept (grownBy_setCell' w4 (w2.heap.size + 1) (.slice (some ⟨g', 0, none⟩) (k + 1) cap')) (.inr (HV1.out.not_row (by decide) hown').symm)
              rw [hiTo_succ, spanCells_append, HS.out]
              have e : min (hiPre d.pts k) d.pts[k].hi = (hiPre d.pts k) := by omega
              rw [e]
              exact h1, ((((HBW.out.alloc HBW.out.size _).alloc (by have := HBW.out.size; simp; omega) _).grown hgrow (by have := HBW.out.size; simp; omega) (fun q hq => (hown.lt q hq).1)).setCell (p := ⟨w2.heap.size + 1, 0, none⟩) (by simp) _)⟩
            case measure => first | (simp [intOf]; done) | (simp [intOf]; omega)
          · have HNEW := Lib.hid (show ∀ j u, [I 0, I d.pts[k].hi][j]? = some u → ((wr.alloc (.cells #[I d.pts[k].lo, I d.pts[k].hi, I d.pts[k].cost] 39)).alloc (.cells #[I 0, I d.pts[k].hi] 30)).cell? ((⟨wr.heap.size + 1, 0, none⟩ : Addr).add j) = some u from
              World.news_of_block (cs := #[I 0, I d.pts[k].hi]) (t := 30) (fr := (0, 0)) (by have := heap_alloc_new (wr.alloc (.cells #[I d.pts[k].lo, I d.pts[k].hi, I d.pts[k].cost] 39)) (.cells #[I 0, I d.pts[k].hi] 30); rwa [World.size_alloc] at this))
            have HBS : w2.heap.size ≤ ((wr.alloc (.cells #[I d.pts[k].lo, I d.pts[k].hi, I d.pts[k].cost] 39)).alloc (.cells #[I 0, I d.pts[k].hi] 30)).heap.size := by have := HBW.out.size; simp; omega
            go_wp2_with (at_builtin; refine wpList_append_own _ rfl _ _ 72 rfl w2.heap.size 30 i0 (.agg #[.int .i64 0, .int .i64 0]) 2 16 Try.underlying72 hi hz0 hz1 hz2' rfl h02 _ _ _ rfl ((hown.alloc _).alloc _) ⟨wr.heap.size + 1, 0, none⟩ 1 1 [I 0, I d.pts[k].hi] rfl rfl ?_ ?_ ?_ ?_ ?_ ?_; exact HNEW.out; (simp [Value.oneCell']); (simp only [maxLen]; omega); omega; exact HBS; intro v' w4 hown' hgrow _; obtain ⟨g', cap', rfl⟩ := ownsRow_succ hown'; have hv1 := Boxed.kept ((HBX.out.alloc _).alloc _) hgrow HNR.out; have hc4 := hv1.cell; have hf4 := hv1.frozen; have HV1 := Lib.hid hv1; clear hv1)
            go_roundw
            case rel => exact ⟨k + 1, by omega, by go_num, by rw [HS.out]; simp; omega, _, HV1.out.set _, by
              have h1 := hown'.kept (grownBy_setCell' w4 (w2.heap.size + 1) (.slice (some ⟨g', 0, none⟩) (k + 1) cap')) (.inr (HV1.out.not_row (by decide) hown').symm)
              rw [hiTo_succ, spanCells_append, HS.out]
              have e : min (hiPre d.pts k) d.pts[k].hi = d.pts[k].hi := by omega
              rw [e]
              exact h1, ((((HBW.out.alloc HBW.out.size _).alloc (by have := HBW.out.size; simp; omega) _).grown hgrow (by have := HBW.out.size; simp; omega) (fun q hq => (hown.lt q hq).1)).setCell (p := ⟨w2.heap.size + 1, 0, none⟩) (by simp) _)⟩
            case measure => first | (simp [intOf]; done) | (simp [intOf]; omega)
        · obtain rfl : k = d.pts.length := by omega
          have hzw : w.heap.size < wr.heap.size := by omega
          have hxc := hbx.cell
          have hxf := hbx.frozen
          have HBX := Lib.hid hbx
          have HBW := Lib.hid hbw
          clear hbx hbw
          go_wp2_with (go_at_call 56; refine (back_any _ _ _ _).mono ?_; rintro e w5 ⟨rfl, rfl⟩)
          obtain ⟨g, cap, rfl⟩ : ∃ g cap, v = .slice (some ⟨g, 0, none⟩) d.pts.length cap := by
            obtain ⟨m, hm⟩ : ∃ m, d.pts.length = m + 1 := ⟨d.pts.length - 1, by omega⟩
            have h1 := hown
            rw [hm] at h1 ⊢
            exact ownsRow_succ h1
          obtain ⟨WB, hWB⟩ : ∃ WB : World, (wr.alloc (.cells #[I 0] 3)).alloc (.cells #[.slice A d.pts.length c] 25) = WB := ⟨_, rfl⟩
          have hsz : WB.heap.size = wr.heap.size + 2 := by rw [← hWB]; simp
          have hBW : Below wr.heap.size wr WB := by rw [← hWB]; exact ((Below.refl _ _).alloc (Nat.le_refl _) _).alloc (by simp) _
          have bL : Boxed WB wr.heap.size 3 (I 0) := by rw [← hWB]; exact (Boxed.new wr _ _).alloc _
          have bX : Boxed WB (w2.heap.size + 1) 72 (.slice (some ⟨g, 0, none⟩) d.pts.length cap) := by rw [← hWB]; exact (HBX.out.alloc _).alloc _
          have bO : WB.ownsRow w2.heap.size 30 2 (.slice (some ⟨g, 0, none⟩) d.pts.length cap) d.pts.length (spanCells (hiTo d d.pts.length)) := by rw [← hWB]; exact (hown.alloc _).alloc _
          have bS : WB.cell? ⟨wr.heap.size + 1, 0, none⟩ = some (.slice A d.pts.length c) := by rw [← hWB]; have := box_cell (wr.alloc (.cells #[I 0] 3)) #[.slice A d.pts.length c] 25 0 rfl; rwa [World.size_alloc] at this
          have hgl : w2.heap.size ≤ g ∧ g < wr.heap.size := hown.lt g rfl
          have hBB : Below w2.heap.size w2 WB := bto HBW.out hBW
          have hPW : Pts WB (.slice A d.pts.length c) d.pts := HP.out.below (bto (hb0 (.cells #[.slice A d.pts.length c, ov] 28)) (bto HB1.out (bto HB2.out hBB)))
          have hPb : ∀ b o n c', Value.slice A d.pts.length c = .slice (some ⟨b, o, none⟩) n c' → b < w2.heap.size := fun b o n c' he => by
            obtain ⟨b', o', h1, h2, h3⟩ := HC.out hpos
            rw [h1] at he
            injection he with he
            injection he with he
            injection he with he
            subst he
            omega
          rw [hWB]
          clear hxc hxf y0 y1 y2 y3
          refine (wpIn_wide (n := 5)).1 ?_
          refine wpIn_rangeFunc_ownH (F := Fence.wide) rfl (by omega) (gf := 81) (lb := #[.pointer (some ⟨wr.heap.size + 1, 0, none⟩)]) rfl trivial (enters_of PA.func81 (by kernel_rfl) rfl)
            (back_stops (wr.heap.size + 1) w2.heap.size (.slice A d.pts.length c) d.pts hlen' hpos WB bS hPW hPb) (fun h k => h.trans k) (KpB.putObj (by omega) (by omega)) (Below.refl _ _) (fun _ => rfl)
            (fun pre W => (Boxed W wr.heap.size 3 (I (foldL d pre).1) ∧ Boxed W (w2.heap.size + 1) 72 (.slice (some ⟨g, 0, none⟩) d.pts.length cap) ∧ W.ownsRow w2.heap.size 30 2 (.slice (some ⟨g, 0, none⟩) d.pts.length cap) d.pts.length (spanCells (foldL d pre).2)) ∧ Below w2.heap.size w2 W ∧ WB.heap.size ≤ W.heap.size)
            (fun _ _ _ => False) ?hI ?hIx ?h0
            (fun x a' W => ∃ Bx, WB.heap.size ≤ Bx ∧ Box3 W Bx d.pts[x.1] ∧ a' = { tmps := #[Value.agg #[Value.slice A d.pts.length c, ov], Value.bool true, Value.pointer (some ⟨w.heap.size, 0, none⟩), undef, Value.slice none 0 0, I 0, I 0, Value.pointer (some ⟨w2.heap.size, 0, none⟩), Value.bool false, Value.pointer (some ⟨w2.heap.size + 1, 0, none⟩), I (hiPre d.pts d.pts.length), undef, u12, Value.pointer (some ⟨wr.heap.size, 0, none⟩), I ((x.1 : Nat) : Int), Value.pointer (some ⟨Bx, 0, none⟩), Value.agg #[Value.slice A d.pts.length c, ov], Value.bool true, I 0, I 0, Value.bool false, undef, Value.tuple #[Value.agg #[I 0, I 0], Value.bool false], Value.agg #[Value.slice A d.pts.length c, ov], Value.tuple #[Value.agg #[I 0, I 0], Value.bool false], Value.agg #[I 0, I 0], Value.bool false, Value.bool false, Value.pointer (some ⟨w.heap.size, 0, none⟩), Value.slice A d.pts.length c, I (d.pts.length : Int), I (d.pts.length : Int), Value.bool false, u33, u34, u35, u36, u37, u38, u39, u40, u41, u42, u43, u44, u45, Value.pointer (some ⟨w.heap.size, 0, none⟩), Value.slice A d.pts.length c, Value.func (Fn.func 81) #[] #[Value.pointer (some ⟨wr.heap.size + 1, 0, none⟩)], I ((x.1 : Nat) : Int), Value.agg #[I d.pts[x.1].lo, I d.pts[x.1].hi, I d.pts[x.1].cost], undef, undef, undef, undef, undef, undef, undef, undef, undef, undef, undef], defers := [] }) ?hAx ?assign ?body ?done ?stop
          case assign =>
            intro l pre x W K hI hK
            obtain ⟨⟨i1, i2, i3⟩, i4, i5⟩ := hI
            obtain ⟨Bx, hBx⟩ : ∃ Bx, W.heap.size = Bx := ⟨_, rfl⟩
            have HX := Lib.hid hBx
            simp only [encP]
            gi_wp2
            refine hK _ _ ((KeepsOthers.alloc _ _).from _) ⟨(Below.refl _ W).alloc i4.size _, fun v hv => keep_cell ((Below.refl _ W).alloc (Nat.le_refl _) _) hv⟩ ⟨⟨i1.alloc _, i2.alloc _, i3.alloc _⟩, i4.alloc i4.size _, by simp; omega⟩ ⟨Bx, by omega, ?_, rfl⟩
            rw [← hBx]
            exact World.alloc_heap_new W _
          case hI =>
            exact OwnFrom.and (Own.from (fun pre A B row hs hg hr => ⟨hs.1.kept hg (fun e' => by
                obtain ⟨o, ho, hc⟩ := hr _ e'.symm
                have := hs.1
                unfold Boxed at this
                rw [this] at ho; cases ho; cases hc), hs.2.1.kept hg (fun e' => by
                obtain ⟨o, ho, hc⟩ := hr _ e'.symm
                have := hs.2.1
                unfold Boxed at this
                rw [this] at ho; cases ho; cases hc), hs.2.2.kept hg (by
                rcases hs.2.2.2 with ⟨h1, _⟩ | ⟨g', cap', cur, h1, _, hgb, _⟩
                · cases h1
                · refine .inr fun e' => ?_
                  obtain ⟨o, ho, hc⟩ := hr g' (by rw [← e', h1]; rfl)
                  rw [hgb] at ho; cases ho; cases hc)⟩) _) (fun pre A B row hs hg hr => ⟨ownFrom_below (Nat.le_refl _) (by omega) pre A B row hs.1 hg hr, Nat.le_trans hs.2 hg.size⟩)
          case hIx => exact fun _ _ _ _ _ hs _ _ => hs
          case h0 => exact ⟨⟨bL, bX, bO⟩, hBB, Nat.le_refl _⟩
          case hAx =>
            intro x a' _ A B row hs hg hr
            obtain ⟨Bx, h1, h2, h3⟩ := hs
            refine ⟨Bx, h1, ?_, h3⟩
            unfold Box3 at h2 ⊢
            rw [hg.block Bx (Array.getElem?_eq_some_iff.1 h2).1 (fun e' => by
              obtain ⟨_, o, ho, hc⟩ := hr _ e'.symm
              rw [h2] at ho; cases ho; cases hc)]
            exact h2
          case body =>
            rintro l pre x a' W hl ⟨r, hr⟩ ⟨⟨i1, i2, i3⟩, i4, i5⟩ ⟨Bx, hBx, bP, rfl⟩ hlt
            have f1 := foldL_bd d HVD.out pre
            have f2 := (valid_spec HVD.out).2.2.1 _ (List.getElem_mem x.2)
            obtain ⟨f1a, f1b⟩ := f1
            obtain ⟨⟨f2a, f2b⟩, ⟨f2c, f2d⟩, f2e, f2f⟩ := f2
            have hxl : x.1 < d.pts.length := x.2
            have hfl := foldL_length d pre
            have e1 := i1.cell
            have e2 := i1.frozen
            have e3 := i2.cell
            have e4 : W.cell? ⟨g, x.1 * 2, none⟩ = some (I ((foldL d pre).2[x.1]'(by omega)).1) := by
              rw [i3.cellAt (x.1 * 2) (by omega)]
              exact (spanCells_at _ _ (by omega)).1
            have e5 := i3.frozenAt (x.1 * 2)
            have e6 : W.cell? ⟨Bx, 0, none⟩ = some (I d.pts[x.1].lo) := cell_of_row W Bx 0 _ _ _ bP
            have hLW := i1.lt
            have hst : ∀ m, (m = (foldL d pre).1 ∨ m = d.pts[x.1].lo) → m = max (foldL d pre).1 d.pts[x.1].lo →
                KeepsFrom WB.heap.size W ((W.setCell ⟨wr.heap.size, 0, none⟩ (I m)).setCell ⟨g, x.1 * 2, none⟩ (I m)) ∧ KpB w2.heap.size (wr.heap.size + 1) W ((W.setCell ⟨wr.heap.size, 0, none⟩ (I m)).setCell ⟨g, x.1 * 2, none⟩ (I m)) ∧
                (Boxed ((W.setCell ⟨wr.heap.size, 0, none⟩ (I m)).setCell ⟨g, x.1 * 2, none⟩ (I m)) wr.heap.size 3 (I (foldL d (pre ++ [x])).1) ∧ Boxed ((W.setCell ⟨wr.heap.size, 0, none⟩ (I m)).setCell ⟨g, x.1 * 2, none⟩ (I m)) (w2.heap.size + 1) 72 (.slice (some ⟨g, 0, none⟩) d.pts.length cap) ∧ ((W.setCell ⟨wr.heap.size, 0, none⟩ (I m)).setCell ⟨g, x.1 * 2, none⟩ (I m)).ownsRow w2.heap.size 30 2 (.slice (some ⟨g, 0, none⟩) d.pts.length cap) d.pts.length (spanCells (foldL d (pre ++ [x])).2)) ∧
                Below w2.heap.size w2 ((W.setCell ⟨wr.heap.size, 0, none⟩ (I m)).setCell ⟨g, x.1 * 2, none⟩ (I m)) ∧ WB.heap.size ≤ ((W.setCell ⟨wr.heap.size, 0, none⟩ (I m)).setCell ⟨g, x.1 * 2, none⟩ (I m)).heap.size := by
              intro m _ hm
              have hgX : w2.heap.size + 1 ≠ g := fun he => i2.not_row (by decide) i3 (by simp [Value.ownBlock, he])
              have g1 := grownBy_setCell' W wr.heap.size (I m)
              have g2 : (W.setCell ⟨wr.heap.size, 0, none⟩ (I m)).grownBy ((W.setCell ⟨wr.heap.size, 0, none⟩ (I m)).setCell ⟨g, x.1 * 2, none⟩ (I m)) (some g) :=
                ⟨rfl, rfl, rfl, by simp, fun k _ hk => Below.heap_setCell _ _ _ k (fun e => hk (by rw [e]))⟩
              have o1 : (W.setCell ⟨wr.heap.size, 0, none⟩ (I m)).ownsRow w2.heap.size 30 2 (.slice (some ⟨g, 0, none⟩) d.pts.length cap) d.pts.length (spanCells (foldL d pre).2) := i3.kept g1 (.inr (by simp [Value.ownBlock]; omega))
              obtain ⟨o2, _⟩ := o1.stored (x.1 * 2) (I m)
              rw [foldL_snoc]
              simp only [stepL]
              rw [← hm]
              refine ⟨((KeepsOthers.setCell _ _ _).trans (KeepsOthers.setCell _ _ _)).from _, ⟨((Below.refl _ W).setCell (p := ⟨wr.heap.size, 0, none⟩) (by show w2.heap.size ≤ wr.heap.size; omega) _).setCell (p := ⟨g, _, none⟩) hgl.1 _, fun v hv => ?_⟩, ⟨(i1.set _).kept g2 (by simp; omega), (i2.kept g1 (by simp; omega)).kept g2 (by simpa using hgX), ?_⟩, (i4.setCell (p := ⟨wr.heap.size, 0, none⟩) (by show w2.heap.size ≤ wr.heap.size; omega) _).setCell (p := ⟨g, _, none⟩) hgl.1 _, by simpa using i5⟩
              · rw [World.cell?_setCell_other _ _ _ _ (by simp only [ne_eq, Addr.mk.injEq, not_and]; omega), World.cell?_setCell_other _ _ _ _ (by simp only [ne_eq, Addr.mk.injEq, not_and]; omega)]; exact hv
              · rw [← spanCells_set _ _ (m, 0) (by omega)]; exact o2
            have HST := Lib.hid hst
            have HW := Lib.hid hWB
            clear hst hWB i2 i3 i4 i1 hBW bL bX bO bS hBB hPW hPb
            have HSZ := Lib.hid hsz
            clear hsz
            by_cases hmax : d.pts[x.1].lo ≤ (foldL d pre).1
            · have HH := Lib.hid (HST.out (foldL d pre).1 (.inl rfl) (by omega))
              gi_wp2
              exact HH.out
            · have HH := Lib.hid (HST.out d.pts[x.1].lo (.inr rfl) (by omega))
              gi_wp2
              exact HH.out
          case done =>
            rintro D xs W hD rfl ⟨⟨i1, i2, i3⟩, i4, i5⟩ hK
            rw [foldL_bk d _ (Nat.le_refl _), Nat.sub_self, flowsTo_all] at i3
            have hc := i2.cell
            go_wp2_with fail
            refine ⟨by simp, .inl ⟨_, _, rfl, run_takeDeferred hK, ?_⟩⟩
            refine ⟨_, results_tmp2 rfl _ _ _, _, rfl, Spans.of_own (ownsRow_putObj i3 _ hK rfl) (by simp [flowsL]), ?_⟩
            have hDs : w2.heap.size ≤ D := by have := hBW.size; have := HBW.out.size; omega
            exact bto (hb0 _) (bto HB1.out (bto HB2.out (i4.trans (belowK_b (w := w2) (Nat.le_refl _) W D _ _ hDs hK rfl rfl))))
          case stop =>
            rintro D c pre W _ _ h _
            exact h.elim
  · have hR : flowsR d is = ([], askE d is) := by unfold flowsR; rw [if_neg h0]
    rw [hR]
    have h0' : (askE d is != 0) = true := by simpa using h0
    clear hR h0
    refine calls_of_wp_marks PA.func38 rfl ?_
    simp only [Try.ntmps38, List.size_toArray, List.length_cons, List.length_nil, Nat.reduceAdd, Nat.reduceSub, Array.replicate_succ, Array.replicate_zero, List.push_toArray, List.append_toArray, List.nil_append, List.cons_append]
    go_wp2_with (go_at_call 54; refine (ask_any _ d _ _ (HV.out.below (hb0 _)) hlen).mono ?_; rintro e w1 ⟨rfl, hb1⟩; obtain ⟨x0, x1, x2, x3⟩ := B0.keep hb1; have HB1 := Lib.hid hb1; clear hb1)
    refine ⟨_, results_tmp2 rfl _ _ _, _, rfl, Spans.nil _, ?_⟩
    exact bto (hb0 _) HB1.out
end Go.Proofs.Ytpolipcicfjkiaa
