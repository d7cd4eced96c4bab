/- Walks of Flow, Loss, Whole, Lossy. -/
import Derived.Test.YtpolipcicfjkiaaK30
import Derived.Test.YtpolipcicfjkiaaK29
import Derived.Maps.AppendAt
import Derived.Lib.LazyBuf
namespace Go.Proofs.Ytpolipcicfjkiaa
open Go.RowKit Go.Sort

theorem flowsR_bd {d : DLine} {is : Bool} (h : (flowsR d is).2 = 0) : valid d = true ∧ is = true ∧ (flowsR d is).1 = flowsL d ∧ clashO d = none := by
  unfold flowsR at h ⊢
  by_cases h0 : askE d is = 0
  · obtain ⟨h1, h2⟩ := askE_ok h0
    rw [if_pos h0] at h ⊢
    by_cases hc : (clashO d).isSome = true
    · rw [if_pos hc] at h; cases h
    · rw [if_neg hc]; exact ⟨h1, h2, rfl, by simpa using hc⟩
  · rw [if_neg h0] at h; exact absurd h h0
theorem flowsL_bd {d : DLine} (h : valid d = true) : ∀ s ∈ flowsL d, (0 ≤ s.1 ∧ s.1 ≤ 99) ∧ 0 ≤ s.2 ∧ s.2 ≤ 99 := by
  intro s hs
  obtain ⟨i, hi, rfl⟩ := List.mem_map.1 hs
  have hi := List.mem_range.1 hi
  exact ⟨loSuf_bd h (d.pts.length - i) i (by omega), hiPre_bd h (i + 1)⟩
theorem isPt_spec {d : DLine} {n : Int} (h : isPt d n = true) : 0 ≤ n ∧ n < d.pts.length := by
  simp [isPt, inR] at h; omega
theorem isSt_spec {d : DLine} {n : Int} (h : isSt d n = true) : 0 ≤ n ∧ n < d.odds.length := by
  simp [isSt, inR] at h; omega
def flowR (d : DLine) (p : Int) : (Int × Int) × Int := if (flowsR d (isPt d p)).2 = 0 then (flowAt d p.toNat, 0) else ((0, 0), (flowsR d (isPt d p)).2)

set_option maxRecDepth 20000 in
set_option maxHeartbeats 2000000 in
theorem flow_any (v : Value) (d : DLine) (p : Int) (w : World) (hv : LineAt w v d) (hlen : d.odds.length ≤ 1000) (hlen' : d.pts.length ≤ 1000) :
    Calls PA.prog 23 #[v, I p] w fun e w' => e = .returned (.tuple #[.agg #[I (flowR d p).1.1, I (flowR d p).1.2], I (flowR d p).2]) ∧ Below w.heap.size w w' := by
  have HV := Lib.hid hv
  obtain ⟨pv, ov, rfl, hp, ho⟩ := hv
  have hb0 : ∀ x y, Below w.heap.size w ((w.alloc x).alloc y) := fun x y => ((Below.refl _ _).alloc (Nat.le_refl _) _).alloc (by simp) _
  clear hp ho
  have B0 := (Box2.new w pv ov 28).old (.cells #[I 0, I 0] 30)
  have B1 := (Box2.new (w.alloc (.cells #[pv, ov] 28)) (I 0) (I 0) 30).at_ (show _ = w.heap.size + 1 by simp)
  go_enter PA.func23, Try.ntmps23
  go_wp2_with fail
  refine wp_region_seg [([0, 1, 2], 3), ([], 4)] [5, 6, 7, 8] [9] 9 (by kernel_rfl) (by kernel_rfl) ?_
  intro KQ hKQ w1 hb1
  have B0 := B0.keep hb1
  have B1 := B1.keep hb1
  have k0 := cell_regrown B0.c0
  have k1 := cell_regrown B0.c1
  refine seg_next ?_
  simp only [opsAt, List.filterMap_cons, List.filterMap_nil, List.getElem?_toArray, List.getElem?_cons_succ, List.getElem?_cons_zero]
  repeat (first | go_big_quiet_step (fail) | quiet_step (fail))
  refine wpQuiet_nil ?_
  intro K hK
  refine loud_op rfl rfl ?_
  go_simp
  refine (isPt_any _ d _ _ (HV.out.below (bto (hb0 _ _) hb1)) hlen').mono ?_
  rintro e w2 ⟨rfl, hb2⟩
  refine hK _ _ hb2 ?_
  clear hK K k0 k1
  refine seg_next ?_
  simp only [opsAt, List.filterMap_nil]
  refine wpQuiet_nil ?_
  intro K hK
  refine loud_op rfl rfl ?_
  go_simp
  refine (flows_any _ d _ _ (HV.out.below (bto (hb0 _ _) (bto hb1 hb2))) hlen hlen').mono ?_
  rintro e w3 ⟨sv, rfl, hsp, hb3⟩
  refine hK _ _ hb3 ?_
  clear hK K
  refine seg_last ?_
  simp only [opsAt, List.filterMap_cons, List.filterMap_nil, List.getElem?_toArray, List.getElem?_cons_succ, List.getElem?_cons_zero]
  repeat (first | go_big_quiet_step (fail) | quiet_step (fail))
  refine wpQuiet_nil ?_
  obtain ⟨x0, x1, x2, x3⟩ := (B1.keep hb2).keep hb3
  obtain ⟨r1, r2⟩ := res2 x0 x1
  have HW := Lib.hid (bto (hb0 (.cells #[pv, ov] 28) (.cells #[I 0, I 0] 30)) (bto hb1 (bto hb2 hb3)))
  clear hb1 hb2 hb3 B0 B1
  by_cases h0 : (flowsR d (isPt d p)).2 = 0
  · obtain ⟨hvd, hpt, hfl, _⟩ := flowsR_bd h0
    obtain ⟨hp0, hp1⟩ := isPt_spec hpt
    have hR : flowR d p = (flowAt d p.toNat, 0) := by unfold flowR; rw [if_pos h0]
    have HR := Lib.hid hR
    rw [hfl] at hsp
    obtain ⟨p, rfl⟩ := Int.eq_ofNat_of_zero_le hp0
    obtain ⟨A, c, rfl, _, _, hcell⟩ := hsp.open_
    have hpl : p < (flowsL d).length := by simp [flowsL]; omega
    obtain ⟨b, o, rfl, hbl, hcell⟩ := hcell (by omega)
    obtain ⟨y1, y2⟩ := hcell p hpl
    have hfe : (flowsL d)[p] = flowAt d p := by simp [flowsL]
    rw [hfe] at y1 y2
    have hpl' : (p : Int) < ((flowsL d).length : Int) := by omega
    clear hcell hfe hfl hpt hR
    go_wp2_with fail
    refine bodyPost_ret (v := .tuple #[.agg #[I (flowAt d p).1, I (flowAt d p).2], I 0]) (by simp [results, Try.results23, go_sem, r1, r2]) rfl ⟨by rw [HR.out]; simp only [Int.toNat_natCast], ?_⟩
    exact (HW.out.setCell (p := ⟨w.heap.size + 1, 0, none⟩) (by simp) _).setCell (p := ⟨w.heap.size + 1, 1, none⟩) (by simp) _
  · have hR : flowR d p = ((0, 0), (flowsR d (isPt d p)).2) := by unfold flowR; rw [if_neg h0]
    have HR := Lib.hid hR
    have h0' : ((flowsR d (isPt d p)).2 != 0) = true := by simpa using h0
    clear hR h0 hsp
    go_wp2_with fail
    refine bodyPost_ret (v := .tuple #[.agg #[I 0, I 0], I (flowsR d (isPt d p)).2]) (by simp [results, Try.results23, go_sem, r1, r2]) rfl ⟨by rw [HR.out], ?_⟩
    exact (HW.out.setCell (p := ⟨w.heap.size + 1, 0, none⟩) (by simp) _).setCell (p := ⟨w.heap.size + 1, 1, none⟩) (by simp) _
end Go.Proofs.Ytpolipcicfjkiaa
/- A region that draws its order, whose loud operations may come up in more than one order: a tree of plans. Beside XSeg. -/
namespace Go.Proofs.Ytpolipcicfjkiaa
open Go.RowKit Go.Sort

/-- Some reads, then one of some loud operations, and a plan behind each; at the end reads, and the last operations. -/
inductive Plan where
  | last (r t : List Nat)
  | node (st ls : List Nat) (f : Nat → Plan)

def treeOk (ops : Array Oper) (k : Nat) : Plan → Nat → Array Bool → Bool
  | .last r t, n, listed => match readsOk ops k r listed with
    | some l => endOk ops t l && decide (n = r.length + t.length) && t.all (fun i => decide (k ≤ i) && decide (i < ops.size))
    | none => false
  | .node st ls f, n, listed => match readsOk ops k st listed with
    | some l' => Region.ready .any ops l' == ls && !ls.isEmpty && decide (st.length + 1 ≤ n) && ls.all (fun l => !pureAt ops l && treeOk ops k (f l) (n - (st.length + 1)) (l'.setIfInBounds l true))
    | none => false

section
variable {P : Program} {ops : Array Oper} {Q : Act → World → Prop} {k : Nat}
def treeRun (P : Program) (ops : Array Oper) (Q : Act → World → Prop) : Plan → Act → World → Prop
  | .last r t, a, w => wpQuiet P ops (Cls w) (fun a' => wpList P ops (Exit.then Q (fun _ _ _ => False)) (opsAt ops t) a' w) (opsAt ops r) a
  | .node st ls f, a, w => wpQuiet P ops (Cls w) (fun a' => ∀ l ∈ ls, ∀ K : Act → World → Prop, (∀ a'' w'', Below w.heap.size w w'' → treeRun P ops Q (f l) a'' w'' → K a'' w'') → wpLoud P ops Q l K a' w) (opsAt ops st) a

theorem tree_any (hs : Region.noSelect ops = true) (ht : tailOk ops k = true) : ∀ (p : Plan) (n : Nat) (listed : Array Bool) (a : Act) (w : World), Closed ops listed → treeOk ops k p n listed = true →
    treeRun P ops Q p a w → wpAnyG P ops (Exit.then Q (fun _ _ _ => False)) (Cls w) k n listed a w := by
  intro p
  induction p with
  | last r t =>
    intro n listed a w hcl hp h
    simp only [treeOk] at hp
    split at hp
    case h_2 => cases hp
    rename_i l hl
    simp only [Bool.and_eq_true, decide_eq_true_eq] at hp
    obtain ⟨⟨hp, hn⟩, hk⟩ := hp
    subst hn
    have hk' : ∀ i ∈ t, k ≤ i ∧ i < ops.size := fun i hi => by simpa using List.all_eq_true.1 hk i hi
    have := reads_step (Q := Q) (Cls.refl w) hs ht r listed l t.length a hcl hl h (fun a' _ ha' => end_step t l a' w hp hk' ha')
    simpa [Nat.add_comm] using this
  | node st ls f ih =>
    intro n listed a w hcl hp h
    simp only [treeOk] at hp
    split at hp
    case h_2 => cases hp
    rename_i l' hl
    simp only [Bool.and_eq_true, beq_iff_eq, decide_eq_true_eq, Bool.not_eq_true'] at hp
    obtain ⟨⟨⟨hr, hne⟩, hn⟩, hp⟩ := hp
    obtain ⟨m, rfl⟩ : ∃ m, n = m + 1 + st.length := ⟨n - (st.length + 1), by omega⟩
    have hm : m + 1 + st.length - (st.length + 1) = m := by omega
    rw [hm] at hp
    refine reads_step (Q := Q) (Cls.refl w) hs ht st listed l' (m + 1) a hcl hl h (fun a' hcl' ha' => ?_)
    refine ⟨fun h0 => (by rw [hr] at h0; rw [h0] at hne; cases hne), fun i hi => ?_⟩
    have hir := hi
    rw [hr] at hi
    have hpi := List.all_eq_true.1 hp i hi
    simp only [Bool.and_eq_true, Bool.not_eq_true'] at hpi
    obtain ⟨hnp, hpi⟩ := hpi
    have h2 := ha' i hi (fun a' w' => Gd ops (Cls w) k i w w' ∧ wpAnyG P ops (Exit.then Q (fun _ _ _ => False)) (Cls w) k m (l'.setIfInBounds i true) a' w')
      (fun a'' w'' hb hh => ⟨fun _ => ⟨fun h => (by rw [hnp] at h; cases h), fun _ => regrown_of_below hb⟩, wpAnyG_mono (fun _ hc => Cls.trans hb hc) _ _ _ _ (ih i m _ a'' w'' (hcl'.set hir) hpi hh)⟩)
    unfold wpOp
    unfold wpLoud at h2
    cases ho : ops[i]? with
    | none => rw [ho] at h2; exact h2.elim
    | some o =>
      rw [ho] at h2
      simp only at h2 ⊢
      split
      · rename_i hw; rw [if_pos hw] at h2; exact .inl h2
      · rename_i hw; rw [if_neg hw] at h2; exact h2

theorem tree_node {st ls : List Nat} {f : Nat → Plan} {a : Act} {w : World}
    (h : wpQuiet P ops (fun w' => ∃ p : Regrown, w' = grow (redrawn w p.d) p.os) (fun a' => ∀ l ∈ ls, ∀ K : Act → World → Prop, (∀ a'' w'', Below w.heap.size w w'' → treeRun P ops Q (f l) a'' w'' → K a'' w'') → wpLoud P ops Q l K a' w) (opsAt ops st) a) :
    treeRun P ops Q (.node st ls f) a w := h
theorem tree_last {r t : List Nat} {a : Act} {w : World} (h : wpQuiet P ops (fun w' => ∃ p : Regrown, w' = grow (redrawn w p.d) p.os) (fun a' => wpList P ops (Exit.then Q (fun _ _ _ => False)) (opsAt ops t) a' w) (opsAt ops r) a) : treeRun P ops Q (.last r t) a w := h
theorem all_one {p : Nat → Prop} {l : Nat} (h : p l) : ∀ x ∈ [l], p x := fun x hx => by rw [List.mem_singleton.1 hx]; exact h
theorem all_two {p : Nat → Prop} {l m : Nat} (h : p l) (h' : p m) : ∀ x ∈ [l, m], p x := fun x hx => by
  rcases List.mem_cons.1 hx with e | hx
  · rw [e]; exact h
  · rw [List.mem_singleton.1 hx]; exact h'

theorem wp_region_tree {id : Nat} {a : Act} {w : World} {R : Exit → Act → World → Prop} (p : Plan) (k : Nat) (hm : P.follows .mixedOrders = true)
    (hp : (Region.noSelect ops && tailOk ops k && treeOk ops k p ops.size (Array.replicate ops.size false)) = true)
    (h : ∀ Q : Act → World → Prop, (∀ a w, R .normal a w → Q a w) → ∀ w', Below w.heap.size w w' → treeRun P ops Q p a w') : (Code.region id ops true).wp P R a w := by
  simp only [Bool.and_eq_true] at hp
  obtain ⟨⟨hs, ht⟩, hp⟩ := hp
  refine Code.wp_mono (Q := Exit.then (fun a w => R .normal a w) (fun _ _ _ => False)) (fun e a w hq => by cases e <;> first | exact hq | exact hq.elim) ?_
  refine wp_region_any hm (wpAny_of_G (S := Cls w.drew) (k := k) _ _ _ _ ?_)
  exact tree_any hs ht p _ _ a w.drew Closed.start hp (h _ (fun _ _ h => h) _ (Below.refl _ _).drew)

/-! The same, where the reads meet what stood when the region began, and rows that it has made may be written. -/
def treeRunB (P : Program) (ops : Array Oper) (Q : Act → World → Prop) (wB : World) : Plan → Act → World → Prop
  | .last r t, a, w => wpQuiet P ops (Cls wB) (fun a' => wpList P ops (Exit.then Q (fun _ _ _ => False)) (opsAt ops t) a' w) (opsAt ops r) a
  | .node st ls f, a, w => wpQuiet P ops (Cls wB) (fun a' => ∀ l ∈ ls, ∀ K : Act → World → Prop, (∀ a'' w'', Below wB.heap.size wB w'' → treeRunB P ops Q wB (f l) a'' w'' → K a'' w'') → wpLoud P ops Q l K a' w) (opsAt ops st) a
theorem tree_anyB {wB : World} (hs : Region.noSelect ops = true) (ht : tailOk ops k = true) : ∀ (p : Plan) (n : Nat) (listed : Array Bool) (a : Act) (w : World), Closed ops listed → Cls wB w → treeOk ops k p n listed = true →
    treeRunB P ops Q wB p a w → wpAnyG P ops (Exit.then Q (fun _ _ _ => False)) (Cls wB) k n listed a w := by
  intro p
  induction p with
  | last r t =>
    intro n listed a w hcl hC hp h
    simp only [treeOk] at hp
    split at hp
    case h_2 => cases hp
    rename_i l hl
    simp only [Bool.and_eq_true, decide_eq_true_eq] at hp
    obtain ⟨⟨hp, hn⟩, hk⟩ := hp
    subst hn
    have hk' : ∀ i ∈ t, k ≤ i ∧ i < ops.size := fun i hi => by simpa using List.all_eq_true.1 hk i hi
    have := reads_step (Q := Q) hC hs ht r listed l t.length a hcl hl h (fun a' _ ha' => end_step t l a' w hp hk' ha')
    simpa [Nat.add_comm] using this
  | node st ls f ih =>
    intro n listed a w hcl hC hp h
    simp only [treeOk] at hp
    split at hp
    case h_2 => cases hp
    rename_i l' hl
    simp only [Bool.and_eq_true, beq_iff_eq, decide_eq_true_eq, Bool.not_eq_true'] at hp
    obtain ⟨⟨⟨hr, hne⟩, hn⟩, hp⟩ := hp
    obtain ⟨m, rfl⟩ : ∃ m, n = m + 1 + st.length := ⟨n - (st.length + 1), by omega⟩
    have hm : m + 1 + st.length - (st.length + 1) = m := by omega
    rw [hm] at hp
    refine reads_step (Q := Q) hC hs ht st listed l' (m + 1) a hcl hl h (fun a' hcl' ha' => ?_)
    refine ⟨fun h0 => (by rw [hr] at h0; rw [h0] at hne; cases hne), fun i hi => ?_⟩
    have hir := hi
    rw [hr] at hi
    have hpi := List.all_eq_true.1 hp i hi
    simp only [Bool.and_eq_true, Bool.not_eq_true'] at hpi
    obtain ⟨hnp, hpi⟩ := hpi
    have h2 := ha' i hi (fun a' w' => Gd ops (Cls wB) k i w w' ∧ wpAnyG P ops (Exit.then Q (fun _ _ _ => False)) (Cls wB) k m (l'.setIfInBounds i true) a' w')
      (fun a'' w'' hb hh => ⟨fun _ => ⟨fun h => (by rw [hnp] at h; cases h), fun _ => regrown_of_below hb⟩, ih i m _ a'' w'' (hcl'.set hir) (regrown_of_below hb) hpi hh⟩)
    unfold wpOp
    unfold wpLoud at h2
    cases ho : ops[i]? with
    | none => rw [ho] at h2; exact h2.elim
    | some o =>
      rw [ho] at h2
      simp only at h2 ⊢
      split
      · rename_i hw; rw [if_pos hw] at h2; exact .inl h2
      · rename_i hw; rw [if_neg hw] at h2; exact h2
theorem treeB_node {wB : World} {st ls : List Nat} {f : Nat → Plan} {a : Act} {w : World}
    (h : wpQuiet P ops (fun w' => ∃ p : Regrown, w' = grow (redrawn wB p.d) p.os) (fun a' => ∀ l ∈ ls, ∀ K : Act → World → Prop, (∀ a'' w'', Below wB.heap.size wB w'' → treeRunB P ops Q wB (f l) a'' w'' → K a'' w'') → wpLoud P ops Q l K a' w) (opsAt ops st) a) :
    treeRunB P ops Q wB (.node st ls f) a w := h
theorem treeB_last {wB : World} {r t : List Nat} {a : Act} {w : World} (h : wpQuiet P ops (fun w' => ∃ p : Regrown, w' = grow (redrawn wB p.d) p.os) (fun a' => wpList P ops (Exit.then Q (fun _ _ _ => False)) (opsAt ops t) a' w) (opsAt ops r) a) : treeRunB P ops Q wB (.last r t) a w := h
theorem wp_region_treeB {id : Nat} {a : Act} {w : World} {R : Exit → Act → World → Prop} (p : Plan) (k : Nat) (hm : P.follows .mixedOrders = true)
    (hp : (Region.noSelect ops && tailOk ops k && treeOk ops k p ops.size (Array.replicate ops.size false)) = true)
    (h : ∀ Q : Act → World → Prop, (∀ a w, R .normal a w → Q a w) → ∀ w', Below w.heap.size w w' → treeRunB P ops Q w' p a w') : (Code.region id ops true).wp P R a w := by
  simp only [Bool.and_eq_true] at hp
  obtain ⟨⟨hs, ht⟩, hp⟩ := hp
  refine Code.wp_mono (Q := Exit.then (fun a w => R .normal a w) (fun _ _ _ => False)) (fun e a w hq => by cases e <;> first | exact hq | exact hq.elim) ?_
  refine wp_region_any hm (wpAny_of_G (S := Cls w.drew) (k := k) _ _ _ _ ?_)
  exact tree_anyB hs ht p _ _ a w.drew Closed.start (Cls.refl _) hp (h _ (fun _ _ h => h) _ (Below.refl _ _).drew)
end
end Go.Proofs.Ytpolipcicfjkiaa
/- append from whatever source; slices.Clone; a line in new memory (Copy, Freed). -/
namespace Go.Proofs.Ytpolipcicfjkiaa
open Go.RowKit Go.Sort

theorem Try.info39 : (PA.prog.info? 39).map (fun i => (i.zero, i.size, i.bytes)) = some (some (.agg #[.int .i64 0, .int .i64 0, .int .i64 0]), 3, 24) := by kernel_rfl
theorem pts_one (ps : List Pt) : ∀ u ∈ ptCells ps, u.oneCell' = true := fun u hu => by
  obtain ⟨p, _, hu⟩ := List.mem_flatMap.1 hu
  simp [Pt.cells] at hu
  rcases hu with rfl | rfl | rfl <;> rfl
/-- A line in memory that the call has made. -/
def OwnLine (w : World) (base : Nat) (v : Value) (d : DLine) : Prop := ∃ pv ov, v = .agg #[pv, ov] ∧ w.ownsRow base 39 3 pv d.pts.length (ptCells d.pts) ∧ w.ownsRow base 3 1 ov d.odds.length (d.odds.map I)
theorem OwnLine.line {w : World} {base : Nat} {v : Value} {d : DLine} (h : OwnLine w base v d) : LineAt w v d := by
  obtain ⟨pv, ov, rfl, hp, ho⟩ := h
  exact ⟨pv, ov, rfl, Reads.of_own hp, Reads.of_own ho⟩
theorem OwnLine.below {w w' : World} {base : Nat} {v : Value} {d : DLine} (h : OwnLine w base v d) (hb : Below w.heap.size w w') : OwnLine w' base v d := by
  obtain ⟨pv, ov, rfl, hp, ho⟩ := h
  exact ⟨pv, ov, rfl, own_below hp hb, own_below ho hb⟩

set_option maxRecDepth 20000 in
set_option maxHeartbeats 2000000 in
theorem copy_any (v : Value) (d : DLine) (w : World) (hv : LineAt w v d) (hlen : d.odds.length ≤ 1000) (hlen' : d.pts.length ≤ 1000) :
    Calls PA.prog 9 #[v] w fun e w' => ∃ v', e = .returned v' ∧ OwnLine w' w.heap.size v' d ∧ Below w.heap.size w w' := by
  obtain ⟨pv, ov, rfl, hp, ho⟩ := hv
  obtain ⟨iP, hiP, hiP0, hiP1, hiP2⟩ := info_parts Try.info39
  obtain ⟨iO, hiO, hiO0, hiO1, hiO2⟩ := info_parts Try.info3
  have hiP3 : 0 < 3 := by omega
  have hiO3 : 0 < 1 := by omega
  have hiP4 : d.pts.length ≤ maxLen := by simp only [maxLen]; omega
  have hiP5 : d.pts.length * 24 ≤ 140737488355328 := by omega
  have hiO4 : d.odds.length ≤ maxLen := by simp only [maxLen]; omega
  have hiO5 : d.odds.length * 8 ≤ 140737488355328 := by omega
  have hb0 : ∀ x y, Below w.heap.size w ((w.alloc x).alloc y) := fun x y => ((Below.refl _ _).alloc (Nat.le_refl _) _).alloc (by simp) _
  have B0 := (Box2.new w pv ov 28).old (.cells #[.slice none 0 0, .slice none 0 0] 28)
  have B1 := (Box2.new (w.alloc (.cells #[pv, ov] 28)) (.slice none 0 0) (.slice none 0 0) 28).at_ (show _ = w.heap.size + 1 by simp)
  go_enter PA.func9, Try.ntmps9
  go_wp2_with fail
  refine wp_region_tree (.node [1, 2, 5, 6] [0, 4] fun l => if l = 0 then .node [] [3, 4] (fun l => if l = 3 then .node [] [4] (fun _ => .node [] [7] fun _ => .node [] [8] fun _ => .last [] [9]) else .node [] [3] (fun _ => .node [] [7] fun _ => .node [] [8] fun _ => .last [] [9])) else .node [] [0] (fun _ => .node [] [3] fun _ => .node [] [7] fun _ => .node [] [8] fun _ => .last [] [9])) 9 (by kernel_rfl) (by kernel_rfl) ?_
  intro KQ hKQ w1 hb1
  have B0 := B0.keep hb1
  have B1 := B1.keep hb1
  have k0 := cell_regrown B0.c0
  have k1 := cell_regrown B0.c1
  refine tree_node ?_
  simp only [opsAt, List.filterMap_cons, List.filterMap_nil, List.getElem?_toArray, List.getElem?_cons_succ, List.getElem?_cons_zero]
  repeat (first | go_big_quiet_step (fail) | quiet_step (fail))
  refine wpQuiet_nil ?_
  have hbw : Below w.heap.size w w1 := bto (hb0 _ _) hb1
  have hlt : w.heap.size + 1 < w1.heap.size := B1.lt
  have c1 := Below.refl w1.heap.size w1
  clear k0 k1 B0
  refine all_two ?_ ?_
  · intro K hK
    refine loud_op rfl rfl ?_
    go_simp
    have hst : Below w1.heap.size w1 (w1.alloc (.cells #[] 39)) := (Below.refl _ _).alloc (Nat.le_refl _) _
    refine hK _ _ hst ?_
    have hgP : (w1.alloc (.cells #[] 39)).heap[w1.heap.size]? = some (.cells #[] 39 (0, 0)) := heap_alloc_new w1 _
    have hbP : w1.heap.size ≤ w1.heap.size := c1.size
    have hlP : w1.heap.size < (w1.alloc (.cells #[] 39)).heap.size := by simp
    obtain ⟨v2, hv2⟩ : ∃ y, w1.alloc (.cells #[] 39) = y := ⟨_, rfl⟩
    rw [hv2] at hst hgP hlP ⊢
    clear hv2 hK K
    have B1 := B1.keep hst
    have cv2 := bto c1 hst
    clear hst
    refine tree_node ?_
    simp only [opsAt, List.filterMap_nil]
    refine wpQuiet_nil ?_
    refine all_two ?_ ?_
    · intro K hK
      refine loud_op rfl rfl ?_
      refine wp_append_fresh _ _ _ 25 rfl w1.heap.size 39 iP (.agg #[.int .i64 0, .int .i64 0, .int .i64 0]) 3 24 Try.underlying25 hiP hiP0 hiP1 hiP2 rfl hiP3 _ rfl hgP hbP _ _ _ rfl (Reads.below hp (bto hbw cv2)) (pts_one _) hiP4 hiP5 cv2.size ?_
      intro rP v3 ownP hst
      go_simp
      refine hK _ _ hst ?_
      clear hK K
      have B1 := B1.keep hst
      have cv3 := bto cv2 hst
      have hgP := (hst.block _ hlP).trans hgP
      have hlP := Nat.lt_of_lt_of_le hlP hst.size
      clear hst
      refine tree_node ?_
      simp only [opsAt, List.filterMap_nil]
      refine wpQuiet_nil ?_
      refine all_one ?_
      intro K hK
      refine loud_op rfl rfl ?_
      go_simp
      have hst : Below v3.heap.size v3 (v3.alloc (.cells #[] 3)) := (Below.refl _ _).alloc (Nat.le_refl _) _
      refine hK _ _ hst ?_
      have hgO : (v3.alloc (.cells #[] 3)).heap[v3.heap.size]? = some (.cells #[] 3 (0, 0)) := heap_alloc_new v3 _
      have hbO : w1.heap.size ≤ v3.heap.size := cv3.size
      have hlO : v3.heap.size < (v3.alloc (.cells #[] 3)).heap.size := by simp
      obtain ⟨v4, hv4⟩ : ∃ y, v3.alloc (.cells #[] 3) = y := ⟨_, rfl⟩
      rw [hv4] at hst hgO hlO ⊢
      clear hv4 hK K
      have B1 := B1.keep hst
      have cv4 := bto cv3 hst
      have ownP := own_below ownP hst
      clear hst
      refine tree_node ?_
      simp only [opsAt, List.filterMap_nil]
      refine wpQuiet_nil ?_
      refine all_one ?_
      intro K hK
      refine loud_op rfl rfl ?_
      refine wp_append_fresh _ _ _ 26 rfl w1.heap.size 3 iO (.int .i64 0) 1 8 Try.underlying26 hiO hiO0 hiO1 hiO2 rfl hiO3 _ rfl hgO hbO _ _ _ rfl (Reads.below ho (bto hbw cv4)) (ints_one _) hiO4 hiO5 cv4.size ?_
      intro rO v5 ownO hst
      go_simp
      refine hK _ _ hst ?_
      clear hK K
      have B1 := B1.keep hst
      have cv5 := bto cv4 hst
      have ownP := own_below ownP hst
      have hgO := (hst.block _ hlO).trans hgO
      have hlO := Nat.lt_of_lt_of_le hlO hst.size
      clear hst
      refine tree_node ?_
      simp only [opsAt, List.filterMap_nil]
      refine wpQuiet_nil ?_
      refine all_one ?_
      obtain ⟨aP, cP, rfl⟩ := own_shape ownP
      obtain ⟨aO, cO, rfl⟩ := own_shape ownO
      intro K hK
      refine loud_op rfl rfl ?_
      go_simp
      refine hK _ _ (Below.refl _ _) ?_
      clear hK K
      refine tree_last ?_
      simp only [opsAt, List.filterMap_nil, List.filterMap_cons, List.getElem?_toArray, List.getElem?_cons_succ, List.getElem?_cons_zero]
      refine wpQuiet_nil ?_
      obtain ⟨x0, x1, x2, x3⟩ := B1
      obtain ⟨r1, r2⟩ := res2 x0 x1
      go_wp2_with fail
      refine bodyPost_ret (v := .agg #[.slice aP d.pts.length cP, .slice aO d.odds.length cO]) (by simp [results, Try.results9, go_sem, r1, r2]) rfl ⟨_, rfl, ⟨_, _, rfl, own_base' (own_setCell (own_setCell ownP _ _ hlt) _ _ hlt) hbw.size, own_base' (own_setCell (own_setCell ownO _ _ hlt) _ _ hlt) hbw.size⟩, ?_⟩
      exact ((bto hbw cv5).setCell (p := ⟨w.heap.size + 1, 0, none⟩) (by simp) _).setCell (p := ⟨w.heap.size + 1, 1, none⟩) (by simp) _
    · intro K hK
      refine loud_op rfl rfl ?_
      go_simp
      have hst : Below v2.heap.size v2 (v2.alloc (.cells #[] 3)) := (Below.refl _ _).alloc (Nat.le_refl _) _
      refine hK _ _ hst ?_
      have hgO : (v2.alloc (.cells #[] 3)).heap[v2.heap.size]? = some (.cells #[] 3 (0, 0)) := heap_alloc_new v2 _
      have hbO : w1.heap.size ≤ v2.heap.size := cv2.size
      have hlO : v2.heap.size < (v2.alloc (.cells #[] 3)).heap.size := by simp
      obtain ⟨v3, hv3⟩ : ∃ y, v2.alloc (.cells #[] 3) = y := ⟨_, rfl⟩
      rw [hv3] at hst hgO hlO ⊢
      clear hv3 hK K
      have B1 := B1.keep hst
      have cv3 := bto cv2 hst
      have hgP := (hst.block _ hlP).trans hgP
      have hlP := Nat.lt_of_lt_of_le hlP hst.size
      clear hst
      refine tree_node ?_
      simp only [opsAt, List.filterMap_nil]
      refine wpQuiet_nil ?_
      refine all_one ?_
      intro K hK
      refine loud_op rfl rfl ?_
      refine wp_append_fresh _ _ _ 25 rfl w1.heap.size 39 iP (.agg #[.int .i64 0, .int .i64 0, .int .i64 0]) 3 24 Try.underlying25 hiP hiP0 hiP1 hiP2 rfl hiP3 _ rfl hgP hbP _ _ _ rfl (Reads.below hp (bto hbw cv3)) (pts_one _) hiP4 hiP5 cv3.size ?_
      intro rP v4 ownP hst
      go_simp
      refine hK _ _ hst ?_
      clear hK K
      have B1 := B1.keep hst
      have cv4 := bto cv3 hst
      have hgP := (hst.block _ hlP).trans hgP
      have hlP := Nat.lt_of_lt_of_le hlP hst.size
      have hgO := (hst.block _ hlO).trans hgO
      have hlO := Nat.lt_of_lt_of_le hlO hst.size
      clear hst
      refine tree_node ?_
      simp only [opsAt, List.filterMap_nil]
      refine wpQuiet_nil ?_
      refine all_one ?_
      intro K hK
      refine loud_op rfl rfl ?_
      refine wp_append_fresh _ _ _ 26 rfl w1.heap.size 3 iO (.int .i64 0) 1 8 Try.underlying26 hiO hiO0 hiO1 hiO2 rfl hiO3 _ rfl hgO hbO _ _ _ rfl (Reads.below ho (bto hbw cv4)) (ints_one _) hiO4 hiO5 cv4.size ?_
      intro rO v5 ownO hst
      go_simp
      refine hK _ _ hst ?_
      clear hK K
      have B1 := B1.keep hst
      have cv5 := bto cv4 hst
      have hgO := (hst.block _ hlO).trans hgO
      have hlO := Nat.lt_of_lt_of_le hlO hst.size
      have ownP := own_below ownP hst
      clear hst
      refine tree_node ?_
      simp only [opsAt, List.filterMap_nil]
      refine wpQuiet_nil ?_
      refine all_one ?_
      obtain ⟨aP, cP, rfl⟩ := own_shape ownP
      obtain ⟨aO, cO, rfl⟩ := own_shape ownO
      intro K hK
      refine loud_op rfl rfl ?_
      go_simp
      refine hK _ _ (Below.refl _ _) ?_
      clear hK K
      refine tree_last ?_
      simp only [opsAt, List.filterMap_nil, List.filterMap_cons, List.getElem?_toArray, List.getElem?_cons_succ, List.getElem?_cons_zero]
      refine wpQuiet_nil ?_
      obtain ⟨x0, x1, x2, x3⟩ := B1
      obtain ⟨r1, r2⟩ := res2 x0 x1
      go_wp2_with fail
      refine bodyPost_ret (v := .agg #[.slice aP d.pts.length cP, .slice aO d.odds.length cO]) (by simp [results, Try.results9, go_sem, r1, r2]) rfl ⟨_, rfl, ⟨_, _, rfl, own_base' (own_setCell (own_setCell ownP _ _ hlt) _ _ hlt) hbw.size, own_base' (own_setCell (own_setCell ownO _ _ hlt) _ _ hlt) hbw.size⟩, ?_⟩
      exact ((bto hbw cv5).setCell (p := ⟨w.heap.size + 1, 0, none⟩) (by simp) _).setCell (p := ⟨w.heap.size + 1, 1, none⟩) (by simp) _
  · intro K hK
    refine loud_op rfl rfl ?_
    go_simp
    have hst : Below w1.heap.size w1 (w1.alloc (.cells #[] 3)) := (Below.refl _ _).alloc (Nat.le_refl _) _
    refine hK _ _ hst ?_
    have hgO : (w1.alloc (.cells #[] 3)).heap[w1.heap.size]? = some (.cells #[] 3 (0, 0)) := heap_alloc_new w1 _
    have hbO : w1.heap.size ≤ w1.heap.size := c1.size
    have hlO : w1.heap.size < (w1.alloc (.cells #[] 3)).heap.size := by simp
    obtain ⟨v2, hv2⟩ : ∃ y, w1.alloc (.cells #[] 3) = y := ⟨_, rfl⟩
    rw [hv2] at hst hgO hlO ⊢
    clear hv2 hK K
    have B1 := B1.keep hst
    have cv2 := bto c1 hst
    clear hst
    refine tree_node ?_
    simp only [opsAt, List.filterMap_nil]
    refine wpQuiet_nil ?_
    refine all_one ?_
    intro K hK
    refine loud_op rfl rfl ?_
    go_simp
    have hst : Below v2.heap.size v2 (v2.alloc (.cells #[] 39)) := (Below.refl _ _).alloc (Nat.le_refl _) _
    refine hK _ _ hst ?_
    have hgP : (v2.alloc (.cells #[] 39)).heap[v2.heap.size]? = some (.cells #[] 39 (0, 0)) := heap_alloc_new v2 _
    have hbP : w1.heap.size ≤ v2.heap.size := cv2.size
    have hlP : v2.heap.size < (v2.alloc (.cells #[] 39)).heap.size := by simp
    obtain ⟨v3, hv3⟩ : ∃ y, v2.alloc (.cells #[] 39) = y := ⟨_, rfl⟩
    rw [hv3] at hst hgP hlP ⊢
    clear hv3 hK K
    have B1 := B1.keep hst
    have cv3 := bto cv2 hst
    have hgO := (hst.block _ hlO).trans hgO
    have hlO := Nat.lt_of_lt_of_le hlO hst.size
    clear hst
    refine tree_node ?_
    simp only [opsAt, List.filterMap_nil]
    refine wpQuiet_nil ?_
    refine all_one ?_
    intro K hK
    refine loud_op rfl rfl ?_
    refine wp_append_fresh _ _ _ 25 rfl w1.heap.size 39 iP (.agg #[.int .i64 0, .int .i64 0, .int .i64 0]) 3 24 Try.underlying25 hiP hiP0 hiP1 hiP2 rfl hiP3 _ rfl hgP hbP _ _ _ rfl (Reads.below hp (bto hbw cv3)) (pts_one _) hiP4 hiP5 cv3.size ?_
    intro rP v4 ownP hst
    go_simp
    refine hK _ _ hst ?_
    clear hK K
    have B1 := B1.keep hst
    have cv4 := bto cv3 hst
    have hgO := (hst.block _ hlO).trans hgO
    have hlO := Nat.lt_of_lt_of_le hlO hst.size
    have hgP := (hst.block _ hlP).trans hgP
    have hlP := Nat.lt_of_lt_of_le hlP hst.size
    clear hst
    refine tree_node ?_
    simp only [opsAt, List.filterMap_nil]
    refine wpQuiet_nil ?_
    refine all_one ?_
    intro K hK
    refine loud_op rfl rfl ?_
    refine wp_append_fresh _ _ _ 26 rfl w1.heap.size 3 iO (.int .i64 0) 1 8 Try.underlying26 hiO hiO0 hiO1 hiO2 rfl hiO3 _ rfl hgO hbO _ _ _ rfl (Reads.below ho (bto hbw cv4)) (ints_one _) hiO4 hiO5 cv4.size ?_
    intro rO v5 ownO hst
    go_simp
    refine hK _ _ hst ?_
    clear hK K
    have B1 := B1.keep hst
    have cv5 := bto cv4 hst
    have hgO := (hst.block _ hlO).trans hgO
    have hlO := Nat.lt_of_lt_of_le hlO hst.size
    have ownP := own_below ownP hst
    clear hst
    refine tree_node ?_
    simp only [opsAt, List.filterMap_nil]
    refine wpQuiet_nil ?_
    refine all_one ?_
    obtain ⟨aP, cP, rfl⟩ := own_shape ownP
    obtain ⟨aO, cO, rfl⟩ := own_shape ownO
    intro K hK
    refine loud_op rfl rfl ?_
    go_simp
    refine hK _ _ (Below.refl _ _) ?_
    clear hK K
    refine tree_last ?_
    simp only [opsAt, List.filterMap_nil, List.filterMap_cons, List.getElem?_toArray, List.getElem?_cons_succ, List.getElem?_cons_zero]
    refine wpQuiet_nil ?_
    obtain ⟨x0, x1, x2, x3⟩ := B1
    obtain ⟨r1, r2⟩ := res2 x0 x1
    go_wp2_with fail
    refine bodyPost_ret (v := .agg #[.slice aP d.pts.length cP, .slice aO d.odds.length cO]) (by simp [results, Try.results9, go_sem, r1, r2]) rfl ⟨_, rfl, ⟨_, _, rfl, own_base' (own_setCell (own_setCell ownP _ _ hlt) _ _ hlt) hbw.size, own_base' (own_setCell (own_setCell ownO _ _ hlt) _ _ hlt) hbw.size⟩, ?_⟩
    exact ((bto hbw cv5).setCell (p := ⟨w.heap.size + 1, 0, none⟩) (by simp) _).setCell (p := ⟨w.heap.size + 1, 1, none⟩) (by simp) _
end Go.Proofs.Ytpolipcicfjkiaa
/- Walks of Loss, Whole, Free. -/
namespace Go.Proofs.Ytpolipcicfjkiaa
open Go.RowKit Go.Sort

def lossR (d : DLine) (p : Int) : (Int × Int) × Int := if (flowsR d (isSt d p)).2 = 0 then (lostF (flowsL d) p.toNat (p.toNat + 1), 0) else ((0, 0), (flowsR d (isSt d p)).2)
def wholeR (d : DLine) : (Int × Int) × Int := if (flowsR d true).2 = 0 then (lostF (flowsL d) 0 d.odds.length, 0) else ((0, 0), (flowsR d true).2)
/-- A line one of whose points costs so much. -/
def setCost (d : DLine) (p : Nat) (c : Int) : DLine := { d with pts := d.pts.modify p fun x => { x with cost := c } }
def freeR (d : DLine) (p : Int) : Int × Int := if askE d (isPt d p) = 0 then (if d.odds.length = 0 then (0, 3) else (worstN d 0 d.odds.length - worstN (setCost d p.toNat 0) 0 d.odds.length, 0)) else (0, askE d (isPt d p))

end Go.Proofs.Ytpolipcicfjkiaa
/- Walk of Free. -/
namespace Go.Proofs.Ytpolipcicfjkiaa
open Go.RowKit Go.Sort

theorem Box2.other {w : World} {B : Nat} {u0 u1 : Value} (h : Box2 w B u0 u1) (q : Addr) (u : Value) (hq : q.block ≠ B) : Box2 (w.setCell q u) B u0 u1 :=
  ⟨by rw [World.cell?_setCell_other _ _ _ _ (fun e => hq (by rw [e]))]; exact h.c0, by rw [World.cell?_setCell_other _ _ _ _ (fun e => hq (by rw [e]))]; exact h.c1, by simpa [go_sem] using h.f0, by simpa [go_sem] using h.f1⟩
theorem Box2.set0 {w : World} {B : Nat} {u0 u1 : Value} (h : Box2 w B u0 u1) (u : Value) : Box2 (w.setCell ⟨B, 0, none⟩ u) B u u1 :=
  ⟨World.cell?_setCell_same _ _ _ h.c0, by rw [World.cell?_setCell_other _ _ _ _ (by simp)]; exact h.c1, by simpa [go_sem] using h.f0, by simpa [go_sem] using h.f1⟩

theorem ptCells_setCost : ∀ (ps : List Pt) (i : Nat) (c : Int), i < ps.length → (ptCells ps).set (i * 3 + 2) (I c) = ptCells (ps.modify i fun x => { x with cost := c })
  | [], i, _, h => absurd h (by simp)
  | p :: ps, 0, c, _ => by simp [ptCells, Pt.cells]
  | p :: ps, i + 1, c, h => by
    have ih := ptCells_setCost ps i c (by simpa using h)
    have e : ptCells (p :: ps) = I p.lo :: I p.hi :: I p.cost :: ptCells ps := rfl
    rw [e, show (i + 1) * 3 + 2 = (i * 3 + 2) + 3 from by omega]
    simp only [List.set_cons_succ, List.modify_succ_cons]
    rw [ih]
    rfl
theorem own_setCost {W : World} {B g cap : Nat} {ps : List Pt} (h : W.ownsRow B 39 3 (.slice (some ⟨g, 0, none⟩) ps.length cap) ps.length (ptCells ps)) (i : Nat) (c : Int) (hi : i < ps.length) :
    (W.setCell ⟨g, i * 3 + 2, none⟩ (I c)).ownsRow B 39 3 (.slice (some ⟨g, 0, none⟩) ps.length cap) (ps.modify i fun x => { x with cost := c }).length (ptCells (ps.modify i fun x => { x with cost := c })) := by
  have := (h.stored (i * 3 + 2) (I c)).1
  rw [ptCells_setCost _ _ _ hi] at this
  simpa using this
theorem setCost_len (d : DLine) (i : Nat) (c : Int) : (setCost d i c).pts.length = d.pts.length ∧ (setCost d i c).odds = d.odds := by simp [setCost]
theorem worst_bd {d : DLine} (h : valid d = true) (f t : Nat) (ht : t ≤ d.odds.length) (hf : f ≤ t) : 0 ≤ worstN d f t ∧ worstN d f t ≤ 140 := by
  have h1 := (valid_spec h).1
  have h2 := tab_small (worst_small h) (t - f) f (by omega)
  unfold worstN
  omega
theorem setCost_valid {d : DLine} (h : valid d = true) (i : Nat) (c : Int) (hc : 0 ≤ c ∧ c ≤ 20) : valid (setCost d i c) = true := by
  unfold valid at h ⊢
  simp only [Bool.and_eq_true, decide_eq_true_eq, Bool.not_eq_true', List.any_eq_false] at h ⊢
  obtain ⟨⟨⟨h1, h2⟩, h3⟩, h4⟩ := h
  refine ⟨⟨⟨h1, h2⟩, by simpa [setCost] using h3⟩, fun x hx => ?_⟩
  obtain ⟨j, hj, rfl⟩ := List.mem_iff_getElem.1 hx
  have hj' : j < d.pts.length := by simpa [setCost] using hj
  have := h4 _ (List.getElem_mem hj')
  simp only [setCost, List.getElem_modify]
  split
  · simp [badPt, inR] at this ⊢
    omega
  · exact this
theorem worstR_ok {d : DLine} (h : valid d = true) (f t : Nat) (hf : f < t) (ht : t ≤ d.odds.length) : worstR d f t = (worstN d f t, 0) := by
  have h1 : someOf d f t = true := by simp [someOf]; omega
  have h2 : askE d true = 0 := by simp [askE, h]
  unfold worstR
  rw [h1, if_pos h2]
  simp only [Int.toNat_natCast]

/-- What stands when a point of the copy has been made free. -/
theorem free_mid (w w1 w2 : World) (g cap : Nat) (d : DLine) (p : Nat) (pv ov : Value) (hb1 : Below w.heap.size w w1) (hlt : w.heap.size < w1.heap.size)
    (hown : w2.ownsRow (w1.alloc (.cells #[pv, ov] 28)).heap.size 39 3 (.slice (some ⟨g, 0, none⟩) d.pts.length cap) d.pts.length (ptCells d.pts))
    (hb2 : Below (w1.alloc (.cells #[pv, ov] 28)).heap.size (w1.alloc (.cells #[pv, ov] 28)) w2) (hg : (w1.alloc (.cells #[pv, ov] 28)).heap.size ≤ g) (hp : p < d.pts.length)
    (B0 : Box2 w1 w.heap.size pv ov) (ho : Ints w ov d.odds) :
    w2.cell? ⟨g, p * 3 + 2, none⟩ = some (I d.pts[p].cost) ∧ w2.frozen? ⟨g, p * 3 + 2, none⟩ = false ∧
    Hid (Below w.heap.size w ((w2.setCell ⟨w1.heap.size, 0, none⟩ (.slice (some ⟨g, 0, none⟩) d.pts.length cap)).setCell ⟨g, p * 3 + 2, none⟩ (I 0)) ∧
      Box2 ((w2.setCell ⟨w1.heap.size, 0, none⟩ (.slice (some ⟨g, 0, none⟩) d.pts.length cap)).setCell ⟨g, p * 3 + 2, none⟩ (I 0)) w.heap.size pv ov ∧
      Box2 ((w2.setCell ⟨w1.heap.size, 0, none⟩ (.slice (some ⟨g, 0, none⟩) d.pts.length cap)).setCell ⟨g, p * 3 + 2, none⟩ (I 0)) w1.heap.size (.slice (some ⟨g, 0, none⟩) d.pts.length cap) ov ∧
      LineAt ((w2.setCell ⟨w1.heap.size, 0, none⟩ (.slice (some ⟨g, 0, none⟩) d.pts.length cap)).setCell ⟨g, p * 3 + 2, none⟩ (I 0)) (.agg #[.slice (some ⟨g, 0, none⟩) d.pts.length cap, ov]) (setCost d p 0)) := by
  have hs : (w1.alloc (.cells #[pv, ov] 28)).heap.size = w1.heap.size + 1 := by simp
  have hbA : Below w.heap.size w (w1.alloc (.cells #[pv, ov] 28)) := hb1.alloc (Nat.le_of_lt hlt) _
  have hb : Below w.heap.size w w2 := bto hbA hb2
  have hbW : Below w.heap.size w ((w2.setCell ⟨w1.heap.size, 0, none⟩ (.slice (some ⟨g, 0, none⟩) d.pts.length cap)).setCell ⟨g, p * 3 + 2, none⟩ (I 0)) :=
    (hb.setCell (p := ⟨w1.heap.size, 0, none⟩) (Nat.le_of_lt hlt) _).setCell (p := ⟨g, p * 3 + 2, none⟩) (by show w.heap.size ≤ g; omega) _
  have o1 := own_setCell hown ⟨w1.heap.size, 0, none⟩ (.slice (some ⟨g, 0, none⟩) d.pts.length cap) (by show w1.heap.size < _; omega)
  have o2 := own_setCost o1 p 0 hp
  refine ⟨?_, hown.frozenAt _, hbW, ?_, ?_, ⟨_, _, rfl, ?_, ho.below hbW⟩⟩
  · rw [hown.cellAt (p * 3 + 2) (by omega)]
    exact (ptCells_at _ _ hp).2.2
  · exact ((((B0.old _).keep hb2).other _ _ (by show w1.heap.size ≠ _; omega)).other _ _ (by show g ≠ _; omega))
  · exact (((Box2.new w1 pv ov 28).keep hb2).set0 _).other _ _ (by show g ≠ _; omega)
  · have := Reads.of_own o2
    simpa [Pts, setCost] using this

end Go.Proofs.Ytpolipcicfjkiaa
/- The rule of XSeg under its elder second name. -/
namespace Go.Proofs.Ytpolipcicfjkiaa
open Go.RowKit Go.Sort
theorem wp_region_segK {P : Program} {ops : Array Oper} {id : Nat} {a : Act} {w : World} {R : Exit → Act → World → Prop} (segs : List (List Nat × Nat)) (last tail : List Nat) (k : Nat) (hm : P.follows .mixedOrders = true)
    (hp : (Region.noSelect ops && tailOk ops k && planOk ops k segs last tail (Array.replicate ops.size false) && tail.all (fun i => decide (k ≤ i) && decide (i < ops.size)) && decide ((segs.map fun s => s.1.length + 1).sum + last.length + tail.length = ops.size)) = true)
    (h : ∀ Q : Act → World → Prop, (∀ a w, R .normal a w → Q a w) → ∀ w', Below w.heap.size w w' → segRun P ops Q segs last tail a w') : (Code.region id ops true).wp P R a w := wp_region_seg segs last tail k hm hp h
end Go.Proofs.Ytpolipcicfjkiaa
