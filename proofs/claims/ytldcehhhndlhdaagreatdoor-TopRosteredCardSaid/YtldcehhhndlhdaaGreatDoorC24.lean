/- The rows of the cheapest path: made, in whatever order. -/
import Derived.Test.YtldcehhhndlhdaaGreatDoorC23
import Derived.OwnWalk
namespace Go.Proofs.YtldcehhhndlhdaaGreatDoor
open Go.RowKit Go.Sort Go.Shelf
attribute [local go_sem] Oper.semAt_some

/-- The contract of the iterator over the steps. -/
theorem arcs_seq (w : World) (B B0 : Nat) (Ks : List Nat) (t : BTown) (d : Nat → Int) (hval : bVal t = true) (h12 : t.ys.length ≤ 12) (hd : Bk.Div t.bt d) (w0 : World) (hB0 : w0.heap.size = B0) (hw : Below w0.heap.size w0 w) (hKw : ∀ k ∈ Ks, k < w.heap.size) (ht : TownAt w0 B t d) :
    SeqRP Fence.wide 4 Tryz.prog 96 #[.pointer (some ⟨B, 0, none⟩)] #[] encA (KpX B0 Ks) (fun ys => ys = Bk.arcsB t.bt d) (fun _ => True) (fun _ => True) (fun pre x _ => pre ++ [x] <+: Bk.arcsB t.bt d) w := fun l J Jx W hW hJ _ _ hY h0 =>
  arcs_in l B B0 Ks t d hval h12 hd w0 hB0 J Jx W (hw.trans (hW.mono hw.size)) (fun k hk => Nat.lt_of_lt_of_le (hKw k hk) hW.size) hJ hY ht h0
section
variable {P : Program}
/-- The state at hand gets a letter. -/
theorem wp_letter {c : Code} {Q : Exit → Act → World → Prop} {a : Act} {w : World} (h : ∀ a', a = a' → c.wp P Q a' w) : c.wp P Q a w := h a rfl
/-- Behind a piece of code something is so; of the state ahead of it no more than a letter is said. -/
theorem wp_cut {c : Code} {Q : Exit → Act → World → Prop} {a : Act} {w : World} (R : Act → Act → World → Prop) (h1 : c.wp P (fun e a' w' => e = .normal ∧ R a a' w') a w) (h2 : ∀ a' w', R a a' w' → Q .normal a' w') : c.wp P Q a w :=
  Code.wp_mono (fun e a' w' ⟨he, hr⟩ => by rw [he]; exact h2 a' w' hr) h1
theorem wp_loop_at {c : Code} {Q : Exit → Act → World → Prop} {a : Act} {w : World} (I : Act → Act → World → Prop) (μ : Act → World → Nat) (h₀ : I a a w)
    (round : ∀ a' w', I a a' w' → c.wp P (Exit.then (fun a2 w2 => I a a2 w2 ∧ μ a2 w2 < μ a' w') Q) a' w') : (Code.loop c).wp P Q a w := wp_loop (I a) μ h₀ round
theorem wp_make {w : World} {o : Oper} {a : Act} {K : Act → World → Prop} {Q : Exit → Act → World → Prop} (l c : Operand) (t : TypeId) (hop : o.op = Op.makeSlice t l c)
    (base : Nat) (e : TypeId) (i : TypeInfo) (z : Value) (size : Nat) (h1 : P.underlying t = some (.slice e)) (h2 : P.info? e = some i) (h3 : i.zero = some z) (h4 : i.size = size)
    (kl kc : IntKind) (L C : Int) (n : Nat) (hl : a.eval l = .int kl L) (hc : a.eval c = .int kc C) (hL : L = (n : Int)) (hC : C = (n : Int)) (b2 : i.bytes * n ≤ 281474976710656) (b3 : n ≤ maxLen) (b4 : base ≤ w.heap.size)
    (hK : ∀ w', w'.ownsRow base e size (.slice (some ⟨w.heap.size, 0, none⟩) n n) n (madeCells z.cells (n * size)).toList → w.grownBy w' none → K (a.put o.dst (.slice (some ⟨w.heap.size, 0, none⟩) n n)) w') : o.wp P a w K Q := by
  obtain ⟨w', hrun, r1, r2⟩ := run_make_full (P := P) w base t e i z size h1 h2 h3 h4 kl kc n b2 b3 b4
  subst hL
  subst hC
  unfold Oper.wp
  simp [execOp, hop, hl, hc, hrun, Result.andThen]
  exact hK w' r1 r2
theorem all_three {p : Nat → Prop} {l m k : Nat} (h : p l) (h' : p m) (h'' : p k) : ∀ x ∈ [l, m, k], p x := fun x hx => by
  rcases List.mem_cons.1 hx with e | hx
  · rw [e]; exact h
  · exact all_two h' h'' x hx
theorem all_four {p : Nat → Prop} {l m k j : Nat} (h : p l) (h' : p m) (h'' : p k) (h3 : p j) : ∀ x ∈ [l, m, k, j], p x := fun x hx => by
  rcases List.mem_cons.1 hx with e | hx
  · rw [e]; exact h
  · exact all_three h' h'' h3 x hx
end
theorem St.made' {w0 w w' : World} {n : Nat} {L : List Item} (h : St w0 w n L) (hg : w.grownBy w' none) {e size m cap : Nat} {xs : List Value} (ho : w'.ownsRow w0.heap.size e size (.slice (some ⟨w.heap.size, 0, none⟩) m cap) m xs) : St w0 w' w'.heap.size (.own e size (.slice (some ⟨w.heap.size, 0, none⟩) m cap) m xs :: L) := by
  have hb : Below w.heap.size w w' := ⟨hg.os, hg.tape, hg.output, hg.size, fun k hk => hg.block k hk (by simp)⟩
  have h2 := h.call hb
  refine ⟨rfl, h2.bel, fun x hx => ?_, ?_⟩
  · rcases List.mem_cons.1 hx with hx | hx
    · rw [hx]; exact ho
    · exact h2.ok x hx
  · have e0 : (Item.own e size (.slice (some ⟨w.heap.size, 0, none⟩) m cap) m xs).blk = some w.heap.size := rfl
    rw [List.filterMap_cons, e0]
    refine List.nodup_cons.2 ⟨fun hm => ?_, h.apart⟩
    have h4 := (h.lt_of hm).2
    have := h.size
    omega
theorem madeI' (N : Nat) : (madeCells (Value.cells (.int .i64 0)) (N * 1)).toList = (List.replicate N (0 : Int)).map I := by
  rw [List.map_replicate]
  apply List.ext_getElem
  · simp [madeCells]
  · intro i h1 h2
    simp [madeCells, Value.cells, Nat.mod_one]
/-- The costs while they are filled. -/
def fillL (N k : Nat) : List Int := List.replicate k Bk.farI ++ List.replicate (N - k) 0
theorem fillL_zero (N : Nat) : fillL N 0 = List.replicate N 0 := by simp [fillL]
theorem fillL_len {N k : Nat} (h : k ≤ N) : (fillL N k).length = N := by simp [fillL]; omega
theorem fillL_set {N k : Nat} (h : k < N) : (fillL N k).set k Bk.farI = fillL N (k + 1) := by
  unfold fillL
  rw [List.set_append_right _ _ (by simp)]
  have e : N - k = (N - (k + 1)) + 1 := by omega
  rw [e, List.replicate_succ, List.length_replicate, Nat.sub_self, List.set_cons_zero, List.replicate_succ']
  simp
theorem fillL_end {N M : Nat} : (fillL N N).set M 0 = Bk.rowF N (Bk.startS M).c := by
  have e : fillL N N = Bk.rowF N (fun _ => Bk.farI) := by
    unfold fillL Bk.rowF
    rw [List.map_const', List.length_range]
    simp
  rw [e, Bk.rowF_upd]
  exact Bk.rowF_congr fun i _ => by
    unfold Bk.updF Bk.startS
    rfl
theorem start_src (N M : Nat) : Bk.rowF N (Bk.startS M).src = List.replicate N ⟨0, 0, 0, 0, 0⟩ := by
  unfold Bk.rowF Bk.startS
  rw [List.map_const', List.length_range]
/-- The node at which a path stands behind so many of its steps. -/
def nodeAt (v0 : Nat) (p : List Bk.Arc) : Nat → Nat
  | 0 => v0
  | j + 1 => (p.getD j ⟨0, 0, 0, 0, 0⟩).fr
theorem nodeAt_succ (v0 : Nat) (p : List Bk.Arc) {j : Nat} (h : j < p.length) : nodeAt v0 p (j + 1) = p[j].fr := by
  show (p.getD j ⟨0, 0, 0, 0, 0⟩).fr = _
  rw [List.getD_eq_getElem?_getD, List.getElem?_eq_getElem h, Option.getD_some]
theorem chain_at {src : Nat → Bk.Arc} {s v0 : Nat} {p : List Bk.Arc} (h : Bk.Chain src s v0 p) : ∀ j, j ≤ p.length → Bk.Chain src s (nodeAt v0 p j) (p.drop j)
  | 0, _ => by simpa [nodeAt] using h
  | j + 1, hj => by
    have ih := chain_at h j (by omega)
    rw [List.drop_eq_getElem_cons (show j < p.length by omega)] at ih
    rw [nodeAt_succ v0 p (show j < p.length by omega)]
    exact (Bk.chain_fr ih).2.2
theorem chain_step {src : Nat → Bk.Arc} {s v0 : Nat} {p : List Bk.Arc} (h : Bk.Chain src s v0 p) {j : Nat} (hj : j < p.length) : nodeAt v0 p j ≠ s ∧ p[j] = src (nodeAt v0 p j) := by
  have ih := chain_at h j (by omega)
  rw [List.drop_eq_getElem_cons hj] at ih
  exact ⟨(Bk.chain_fr ih).1, (Bk.chain_fr ih).2.1⟩
theorem chain_last {src : Nat → Bk.Arc} {s v0 : Nat} {p : List Bk.Arc} (h : Bk.Chain src s v0 p) : nodeAt v0 p p.length = s := by
  have ih := chain_at h p.length (Nat.le_refl _)
  rw [List.drop_length] at ih
  exact Bk.chain_end ih
theorem node_lt {v0 n : Nat} {p : List Bk.Arc} (h0 : v0 < n) (hp : ∀ a ∈ p, a.fr < n) : ∀ j, j ≤ p.length → nodeAt v0 p j < n
  | 0, _ => h0
  | j + 1, hj => by
    rw [nodeAt_succ v0 p (show j < p.length by omega)]
    exact hp _ (List.getElem_mem _)
def lenV : Value → Nat
  | .slice _ n _ => n
  | _ => 0
set_option maxRecDepth 100000 in
set_option maxHeartbeats 8000000 in
theorem cheapest_any (B : Nat) (t : BTown) (d : Nat → Int) (w : World) (hval : bVal t = true) (h12 : t.ys.length ≤ 12) (hf : Bk.Fit t.bt d) (ht : TownAt w B t d) :
    Calls Tryz.prog 85 #[.pointer (some ⟨B, 0, none⟩)] w fun e w' => ∃ v p, e = .returned (.tuple #[v, I ((Bk.endB t.bt d).c (Bk.sinkB t.bt))]) ∧ w'.ownsRow w.heap.size 124 5 v p.length (arcRow p) ∧ ((Bk.endB t.bt d).c (Bk.sinkB t.bt) < Bk.farI → Bk.Chain (Bk.endB t.bt d).src (Bk.springB t.bt) (Bk.sinkB t.bt) p) ∧ Below w.heap.size w w' := by
  obtain ⟨A1, A2, A3, A4, c1, c2, c3, c4, hc, h1, h2, h3, h4⟩ := id ht
  have HC := Lib.hid hc
  have HT := Lib.hid ht
  have HV := Lib.hid hval
  have HF := Lib.hid hf
  have HSM := Lib.hid (BTown.bt_sm hval)
  obtain ⟨g1, g2, -, -, -⟩ := bVal_spec hval
  obtain ⟨N, hN⟩ : ∃ N : Nat, t.ws.length + t.hs.length + 2 = N := ⟨_, rfl⟩
  have hNi : (t.ws.length : Int) + (t.hs.length : Int) + 2 = (N : Int) := by omega
  have HN := Lib.hid hN
  have hN13 : N ≤ 13 := by omega
  obtain ⟨M, hM⟩ : ∃ M : Nat, t.ws.length + t.hs.length = M := ⟨_, rfl⟩
  have HNM := Lib.hid (show N = M + 2 by omega)
  have HM := Lib.hid hM
  clear hM hN
  clear hc h1 h2 h3 h4 hval hf ht
  have S := Lib.hid (St.init w)
  refine calls_of_marks Tryz.func85 rfl ?_
  simp only [Tryz.ntmps85, List.size_toArray, List.length_cons, List.length_nil, Nat.reduceAdd, Nat.reduceSub, Array.replicate_succ, Array.replicate_zero, List.push_toArray, List.append_toArray, List.nil_append, List.cons_append]
  go_wp2_with fail
  refine wp_region_seg [] [0, 1, 2, 3, 4, 5, 6, 7, 8, 9, 10, 11, 12, 13, 14] [] 15 (by kernel_rfl) (by kernel_rfl) ?_
  intro KQ hKQ w1 hb
  have S := Lib.hid (S.out.call hb)
  clear hb
  have r0 := cell_regrown (keep_cell S.out.bel (HC.out 0 _ rfl))
  have r1 := cell_regrown (keep_cell S.out.bel (HC.out 1 _ rfl))
  refine seg_last ?_
  simp only [opsAt, List.filterMap_cons, List.filterMap_nil, List.getElem?_toArray, List.getElem?_cons_succ, List.getElem?_cons_zero]
  show wpQuiet _ _ _ _ [_, _, _, _, _, _, _, _, _, _, _, _, _, _, _] _
  repeat (first | go_big_quiet_step (fail) | quiet_step (fail))
  refine wpQuiet_nil ?_
  go_simp
  refine hKQ _ _ ?_
  clear hKQ KQ r0 r1
  try rw [hNi]
  go_wp2_with fail
  refine wp_cut (fun a a' w' => ∃ b5 b6 g1 g3 : Nat, a' = (((((((a.put (some 25) (I N)).put (some 27) (I N)).put (some 26) (.slice (some ⟨g1, 0, none⟩) N N)).put (some 28) (.slice (some ⟨g3, 0, none⟩) N N)).put (some 5) (.pointer (some ⟨b5, 0, none⟩))).put (some 6) (.pointer (some ⟨b6, 0, none⟩)))) ∧ St w w' w'.heap.size [.box b5 [.slice (some ⟨g1, 0, none⟩) N N], .box b6 [.slice (some ⟨g3, 0, none⟩) N N], .own 3 1 (.slice (some ⟨g1, 0, none⟩) N N) N ((List.replicate N (0 : Int)).map I), .own 124 5 (.slice (some ⟨g3, 0, none⟩) N N) N (arcRow (List.replicate N ⟨0, 0, 0, 0, 0⟩))]) ?_ ?_
  · obtain ⟨i0, hi, hz0, hz1, hz2⟩ := info_parts (P := Tryz.prog) (e := 3) (z := .int .i64 0) (size := 1) (bytes := 8) (by kernel_rfl)
    obtain ⟨j0, ki, kz0, kz1, kz2⟩ := info_parts (P := Tryz.prog) (e := 124) (z := .agg #[.int .i64 0, .int .i64 0, .int .i64 0, .int .i64 0, .int .i64 0]) (size := 5) (bytes := 40) (by kernel_rfl)
    have hb : i0.bytes * N ≤ 281474976710656 := by rw [hz2]; omega
    have kb : j0.bytes * N ≤ 281474976710656 := by rw [kz2]; omega
    have hb2 : N ≤ maxLen := by simp only [maxLen]; omega
    clear hz2 kz2 HC HT HV HF HSM HN
    refine wp_region_treeB (.node [0, 2] [1, 3, 4, 5] (fun l => if l = 1 then .node [] [3, 4, 5] (fun l => if l = 3 then .node [] [4, 5] (fun l => if l = 4 then .node [] [5] (fun _ => .node [] [6] (fun _ => .node [] [7] (fun _ => .last [] []))) else .node [] [4] (fun _ => .node [] [6] (fun _ => .node [] [7] (fun _ => .last [] [])))) else if l = 4 then .node [] [3, 5] (fun l => if l = 3 then .node [] [5] (fun _ => .node [] [6] (fun _ => .node [] [7] (fun _ => .last [] []))) else .node [] [3, 6] (fun l => if l = 3 then .node [] [6] (fun _ => .node [] [7] (fun _ => .last [] [])) else .node [] [3] (fun _ => .node [] [7] (fun _ => .last [] [])))) else .node [] [3, 4] (fun l => if l = 3 then .node [] [4] (fun _ => .node [] [6] (fun _ => .node [] [7] (fun _ => .last [] []))) else .node [] [3, 6] (fun l => if l = 3 then .node [] [6] (fun _ => .node [] [7] (fun _ => .last [] [])) else .node [] [3] (fun _ => .node [] [7] (fun _ => .last [] []))))) else if l = 3 then .node [] [1, 4, 5] (fun l => if l = 1 then .node [] [4, 5] (fun l => if l = 4 then .node [] [5] (fun _ => .node [] [6] (fun _ => .node [] [7] (fun _ => .last [] []))) else .node [] [4] (fun _ => .node [] [6] (fun _ => .node [] [7] (fun _ => .last [] [])))) else if l = 4 then .node [] [1, 5] (fun l => if l = 1 then .node [] [5] (fun _ => .node [] [6] (fun _ => .node [] [7] (fun _ => .last [] []))) else .node [] [1] (fun _ => .node [] [6] (fun _ => .node [] [7] (fun _ => .last [] [])))) else .node [] [1, 4] (fun l => if l = 1 then .node [] [4] (fun _ => .node [] [6] (fun _ => .node [] [7] (fun _ => .last [] []))) else .node [] [1] (fun _ => .node [] [6] (fun _ => .node [] [7] (fun _ => .last [] []))))) else if l = 4 then .node [] [1, 3, 5] (fun l => if l = 1 then .node [] [3, 5] (fun l => if l = 3 then .node [] [5] (fun _ => .node [] [6] (fun _ => .node [] [7] (fun _ => .last [] []))) else .node [] [3, 6] (fun l => if l = 3 then .node [] [6] (fun _ => .node [] [7] (fun _ => .last [] [])) else .node [] [3] (fun _ => .node [] [7] (fun _ => .last [] [])))) else if l = 3 then .node [] [1, 5] (fun l => if l = 1 then .node [] [5] (fun _ => .node [] [6] (fun _ => .node [] [7] (fun _ => .last [] []))) else .node [] [1] (fun _ => .node [] [6] (fun _ => .node [] [7] (fun _ => .last [] [])))) else .node [] [1, 3] (fun l => if l = 1 then .node [] [3, 6] (fun l => if l = 3 then .node [] [6] (fun _ => .node [] [7] (fun _ => .last [] [])) else .node [] [3] (fun _ => .node [] [7] (fun _ => .last [] []))) else .node [] [1] (fun _ => .node [] [6] (fun _ => .node [] [7] (fun _ => .last [] []))))) else .node [] [1, 3, 4] (fun l => if l = 1 then .node [] [3, 4] (fun l => if l = 3 then .node [] [4] (fun _ => .node [] [6] (fun _ => .node [] [7] (fun _ => .last [] []))) else .node [] [3, 6] (fun l => if l = 3 then .node [] [6] (fun _ => .node [] [7] (fun _ => .last [] [])) else .node [] [3] (fun _ => .node [] [7] (fun _ => .last [] [])))) else if l = 3 then .node [] [1, 4] (fun l => if l = 1 then .node [] [4] (fun _ => .node [] [6] (fun _ => .node [] [7] (fun _ => .last [] []))) else .node [] [1] (fun _ => .node [] [6] (fun _ => .node [] [7] (fun _ => .last [] [])))) else .node [] [1, 3] (fun l => if l = 1 then .node [] [3, 6] (fun l => if l = 3 then .node [] [6] (fun _ => .node [] [7] (fun _ => .last [] [])) else .node [] [3] (fun _ => .node [] [7] (fun _ => .last [] []))) else .node [] [1] (fun _ => .node [] [6] (fun _ => .node [] [7] (fun _ => .last [] []))))))) 8 (by kernel_rfl) (by kernel_rfl) ?_
    intro KQ hKQ v0 hbv
    have S := Lib.hid (S.out.call hbv)
    have HB := Lib.hid (Below.refl v0.heap.size v0)
    clear hbv
    refine treeB_node ?_
    simp only [opsAt, List.filterMap_cons, List.filterMap_nil, List.getElem?_toArray, List.getElem?_cons_succ, List.getElem?_cons_zero]
    show wpQuiet _ _ _ _ [_, _] _
    repeat (first | go_big_quiet_step (fail) | quiet_step (fail))
    refine wpQuiet_nil ?_
    refine all_four ?_ ?_ ?_ ?_
    · intro K hK
      refine loud_op rfl rfl ?_
      refine wp_make (.tmp 25) (.tmp 25) 22 rfl w.heap.size 3 i0 (.int .i64 0) 1 Tryz.underlying22 hi hz0 hz1 .i64 .i64 _ _ N rfl rfl rfl rfl hb hb2 S.out.bel.size ?_
      intro v1 hown hgr
      have hbq : Below v0.heap.size v0 v1 := ⟨hgr.os, hgr.tape, hgr.output, hgr.size, fun k hk => hgr.block k hk (by simp)⟩
      have S := Lib.hid (S.out.made' hgr hown)
      rw [madeI'] at S
      have HB := Lib.hid (bto HB.out hbq)
      refine hK _ _ HB.out ?_
      clear hK K hown hgr hbq
      refine treeB_node ?_
      simp only [opsAt, List.filterMap_nil]
      refine wpQuiet_nil ?_
      refine all_three ?_ ?_ ?_
      · intro K hK
        refine loud_op rfl rfl ?_
        refine wp_make (.tmp 27) (.tmp 27) 120 rfl w.heap.size 124 j0 (.agg #[.int .i64 0, .int .i64 0, .int .i64 0, .int .i64 0, .int .i64 0]) 5 Tryz.underlying120 ki kz0 kz1 .i64 .i64 _ _ N rfl rfl rfl rfl kb hb2 S.out.bel.size ?_
        intro v2 hown hgr
        have hbq : Below v1.heap.size v1 v2 := ⟨hgr.os, hgr.tape, hgr.output, hgr.size, fun k hk => hgr.block k hk (by simp)⟩
        have S := Lib.hid (S.out.made' hgr hown)
        rw [show (Value.agg #[Value.int IntKind.i64 0, .int .i64 0, .int .i64 0, .int .i64 0, .int .i64 0]).cells = #[Value.int IntKind.i64 0, .int .i64 0, .int .i64 0, .int .i64 0, .int .i64 0] from rfl, madeA] at S
        have HB := Lib.hid (bto HB.out hbq)
        refine hK _ _ HB.out ?_
        clear hK K hown hgr hbq
        refine treeB_node ?_
        simp only [opsAt, List.filterMap_nil]
        refine wpQuiet_nil ?_
        refine all_two ?_ ?_
        · intro K hK
          refine loud_op rfl rfl ?_
          go_simp
          have hbq := (Below.refl v2.heap.size v2).alloc (Nat.le_refl _) (.cells #[.slice none 0 0] 22)
          have S := Lib.hid (S.out.fix.alloc [.slice none 0 0] 22)
          have HL4 := Lib.hid HB.out.size
          obtain ⟨v3, hwd⟩ : ∃ x, v2.alloc (.cells #[.slice none 0 0] 22) = x := ⟨_, rfl⟩
          have S := Lib.hid (show St w v3 (v2.heap.size + 1) _ from by rw [← hwd]; exact S.out)
          rw [hwd] at hbq ⊢
          have S := Lib.hid S.out.fix
          have HB := Lib.hid (bto HB.out hbq)
          refine hK _ _ HB.out ?_
          clear hK K hbq hwd
          refine treeB_node ?_
          simp only [opsAt, List.filterMap_nil]
          refine wpQuiet_nil ?_
          refine all_one ?_
          · intro K hK
            refine loud_op rfl rfl ?_
            go_simp
            have hbq := (Below.refl v3.heap.size v3).alloc (Nat.le_refl _) (.cells #[.slice none 0 0] 120)
            have S := Lib.hid (S.out.fix.alloc [.slice none 0 0] 120)
            have HL5 := Lib.hid HB.out.size
            obtain ⟨v4, hwd⟩ : ∃ x, v3.alloc (.cells #[.slice none 0 0] 120) = x := ⟨_, rfl⟩
            have S := Lib.hid (show St w v4 (v3.heap.size + 1) _ from by rw [← hwd]; exact S.out)
            rw [hwd] at hbq ⊢
            have S := Lib.hid S.out.fix
            have HB := Lib.hid (bto HB.out hbq)
            refine hK _ _ HB.out ?_
            clear hK K hbq hwd
            refine treeB_node ?_
            simp only [opsAt, List.filterMap_nil]
            refine wpQuiet_nil ?_
            refine all_one ?_
            · intro K hK
              refine loud_op rfl rfl ?_
              have x0 := S.out.get 1 0 rfl rfl
              have z0 := S.out.free 1 0 rfl
              go_simp
              have S := Lib.hid ((S.out.set 1 0 (.slice (some ⟨v0.heap.size, 0, none⟩) N N) rfl).fix)
              have HB := Lib.hid (HB.out.setCell (p := ⟨v2.heap.size, 0, none⟩) HL4.out (.slice (some ⟨v0.heap.size, 0, none⟩) N N))
              refine hK _ _ HB.out ?_
              clear hK K x0 z0
              obtain ⟨v5, hwd⟩ : ∃ x, v4.setCell ⟨v2.heap.size, 0, none⟩ (.slice (some ⟨v0.heap.size, 0, none⟩) N N) = x := ⟨_, rfl⟩
              rw [hwd] at S HB ⊢
              clear hwd
              refine treeB_node ?_
              simp only [opsAt, List.filterMap_nil]
              refine wpQuiet_nil ?_
              refine all_one ?_
              · intro K hK
                refine loud_op rfl rfl ?_
                have x0 := S.out.get 0 0 rfl rfl
                have z0 := S.out.free 0 0 rfl
                go_simp
                have S := Lib.hid ((S.out.set 0 0 (.slice (some ⟨v1.heap.size, 0, none⟩) N N) rfl).fix)
                have HB := Lib.hid (HB.out.setCell (p := ⟨v3.heap.size, 0, none⟩) HL5.out (.slice (some ⟨v1.heap.size, 0, none⟩) N N))
                refine hK _ _ HB.out ?_
                clear hK K x0 z0
                obtain ⟨v6, hwd⟩ : ∃ x, v5.setCell ⟨v3.heap.size, 0, none⟩ (.slice (some ⟨v1.heap.size, 0, none⟩) N N) = x := ⟨_, rfl⟩
                rw [hwd] at S HB ⊢
                clear hwd
                refine treeB_last ?_
                simp only [opsAt, List.filterMap_nil]
                refine wpQuiet_nil ?_
                refine hKQ _ _ ⟨rfl, v2.heap.size, v3.heap.size, v0.heap.size, v1.heap.size, ?_, S.out.perm ((List.perm_middle (l₁ := [_]) (l₂ := [_, _])).trans (List.Perm.cons _ (List.Perm.cons _ ((List.perm_middle (l₁ := [_]) (l₂ := [])).trans (List.Perm.cons _ (List.Perm.cons _ (List.Perm.refl _)))))))⟩
                kernel_rfl
        · intro K hK
          refine loud_op rfl rfl ?_
          go_simp
          have hbq := (Below.refl v2.heap.size v2).alloc (Nat.le_refl _) (.cells #[.slice none 0 0] 120)
          have S := Lib.hid (S.out.fix.alloc [.slice none 0 0] 120)
          have HL5 := Lib.hid HB.out.size
          obtain ⟨v3, hwd⟩ : ∃ x, v2.alloc (.cells #[.slice none 0 0] 120) = x := ⟨_, rfl⟩
          have S := Lib.hid (show St w v3 (v2.heap.size + 1) _ from by rw [← hwd]; exact S.out)
          rw [hwd] at hbq ⊢
          have S := Lib.hid S.out.fix
          have HB := Lib.hid (bto HB.out hbq)
          refine hK _ _ HB.out ?_
          clear hK K hbq hwd
          refine treeB_node ?_
          simp only [opsAt, List.filterMap_nil]
          refine wpQuiet_nil ?_
          refine all_one ?_
          · intro K hK
            refine loud_op rfl rfl ?_
            go_simp
            have hbq := (Below.refl v3.heap.size v3).alloc (Nat.le_refl _) (.cells #[.slice none 0 0] 22)
            have S := Lib.hid (S.out.fix.alloc [.slice none 0 0] 22)
            have HL4 := Lib.hid HB.out.size
            obtain ⟨v4, hwd⟩ : ∃ x, v3.alloc (.cells #[.slice none 0 0] 22) = x := ⟨_, rfl⟩
            have S := Lib.hid (show St w v4 (v3.heap.size + 1) _ from by rw [← hwd]; exact S.out)
            rw [hwd] at hbq ⊢
            have S := Lib.hid S.out.fix
            have HB := Lib.hid (bto HB.out hbq)
            refine hK _ _ HB.out ?_
            clear hK K hbq hwd
            refine treeB_node ?_
            simp only [opsAt, List.filterMap_nil]
            refine wpQuiet_nil ?_
            refine all_one ?_
            · intro K hK
              refine loud_op rfl rfl ?_
              have x0 := S.out.get 0 0 rfl rfl
              have z0 := S.out.free 0 0 rfl
              go_simp
              have S := Lib.hid ((S.out.set 0 0 (.slice (some ⟨v0.heap.size, 0, none⟩) N N) rfl).fix)
              have HB := Lib.hid (HB.out.setCell (p := ⟨v3.heap.size, 0, none⟩) HL4.out (.slice (some ⟨v0.heap.size, 0, none⟩) N N))
              refine hK _ _ HB.out ?_
              clear hK K x0 z0
              obtain ⟨v5, hwd⟩ : ∃ x, v4.setCell ⟨v3.heap.size, 0, none⟩ (.slice (some ⟨v0.heap.size, 0, none⟩) N N) = x := ⟨_, rfl⟩
              rw [hwd] at S HB ⊢
              clear hwd
              refine treeB_node ?_
              simp only [opsAt, List.filterMap_nil]
              refine wpQuiet_nil ?_
              refine all_one ?_
              · intro K hK
                refine loud_op rfl rfl ?_
                have x0 := S.out.get 1 0 rfl rfl
                have z0 := S.out.free 1 0 rfl
                go_simp
                have S := Lib.hid ((S.out.set 1 0 (.slice (some ⟨v1.heap.size, 0, none⟩) N N) rfl).fix)
                have HB := Lib.hid (HB.out.setCell (p := ⟨v2.heap.size, 0, none⟩) HL5.out (.slice (some ⟨v1.heap.size, 0, none⟩) N N))
                refine hK _ _ HB.out ?_
                clear hK K x0 z0
                obtain ⟨v6, hwd⟩ : ∃ x, v5.setCell ⟨v2.heap.size, 0, none⟩ (.slice (some ⟨v1.heap.size, 0, none⟩) N N) = x := ⟨_, rfl⟩
                rw [hwd] at S HB ⊢
                clear hwd
                refine treeB_last ?_
                simp only [opsAt, List.filterMap_nil]
                refine wpQuiet_nil ?_
                refine hKQ _ _ ⟨rfl, v3.heap.size, v2.heap.size, v0.heap.size, v1.heap.size, ?_, S.out.perm (List.Perm.cons _ (List.Perm.cons _ ((List.perm_middle (l₁ := [_]) (l₂ := [])).trans (List.Perm.cons _ (List.Perm.cons _ (List.Perm.refl _))))))⟩
                kernel_rfl
      · intro K hK
        refine loud_op rfl rfl ?_
        go_simp
        have hbq := (Below.refl v1.heap.size v1).alloc (Nat.le_refl _) (.cells #[.slice none 0 0] 22)
        have S := Lib.hid (S.out.fix.alloc [.slice none 0 0] 22)
        have HL4 := Lib.hid HB.out.size
        obtain ⟨v2, hwd⟩ : ∃ x, v1.alloc (.cells #[.slice none 0 0] 22) = x := ⟨_, rfl⟩
        have S := Lib.hid (show St w v2 (v1.heap.size + 1) _ from by rw [← hwd]; exact S.out)
        rw [hwd] at hbq ⊢
        have S := Lib.hid S.out.fix
        have HB := Lib.hid (bto HB.out hbq)
        refine hK _ _ HB.out ?_
        clear hK K hbq hwd
        refine treeB_node ?_
        simp only [opsAt, List.filterMap_nil]
        refine wpQuiet_nil ?_
        refine all_two ?_ ?_
        · intro K hK
          refine loud_op rfl rfl ?_
          refine wp_make (.tmp 27) (.tmp 27) 120 rfl w.heap.size 124 j0 (.agg #[.int .i64 0, .int .i64 0, .int .i64 0, .int .i64 0, .int .i64 0]) 5 Tryz.underlying120 ki kz0 kz1 .i64 .i64 _ _ N rfl rfl rfl rfl kb hb2 S.out.bel.size ?_
          intro v3 hown hgr
          have hbq : Below v2.heap.size v2 v3 := ⟨hgr.os, hgr.tape, hgr.output, hgr.size, fun k hk => hgr.block k hk (by simp)⟩
          have S := Lib.hid (S.out.made' hgr hown)
          rw [show (Value.agg #[Value.int IntKind.i64 0, .int .i64 0, .int .i64 0, .int .i64 0, .int .i64 0]).cells = #[Value.int IntKind.i64 0, .int .i64 0, .int .i64 0, .int .i64 0, .int .i64 0] from rfl, madeA] at S
          have HB := Lib.hid (bto HB.out hbq)
          refine hK _ _ HB.out ?_
          clear hK K hown hgr hbq
          refine treeB_node ?_
          simp only [opsAt, List.filterMap_nil]
          refine wpQuiet_nil ?_
          refine all_one ?_
          · intro K hK
            refine loud_op rfl rfl ?_
            go_simp
            have hbq := (Below.refl v3.heap.size v3).alloc (Nat.le_refl _) (.cells #[.slice none 0 0] 120)
            have S := Lib.hid (S.out.fix.alloc [.slice none 0 0] 120)
            have HL5 := Lib.hid HB.out.size
            obtain ⟨v4, hwd⟩ : ∃ x, v3.alloc (.cells #[.slice none 0 0] 120) = x := ⟨_, rfl⟩
            have S := Lib.hid (show St w v4 (v3.heap.size + 1) _ from by rw [← hwd]; exact S.out)
            rw [hwd] at hbq ⊢
            have S := Lib.hid S.out.fix
            have HB := Lib.hid (bto HB.out hbq)
            refine hK _ _ HB.out ?_
            clear hK K hbq hwd
            refine treeB_node ?_
            simp only [opsAt, List.filterMap_nil]
            refine wpQuiet_nil ?_
            refine all_one ?_
            · intro K hK
              refine loud_op rfl rfl ?_
              have x0 := S.out.get 2 0 rfl rfl
              have z0 := S.out.free 2 0 rfl
              go_simp
              have S := Lib.hid ((S.out.set 2 0 (.slice (some ⟨v0.heap.size, 0, none⟩) N N) rfl).fix)
              have HB := Lib.hid (HB.out.setCell (p := ⟨v1.heap.size, 0, none⟩) HL4.out (.slice (some ⟨v0.heap.size, 0, none⟩) N N))
              refine hK _ _ HB.out ?_
              clear hK K x0 z0
              obtain ⟨v5, hwd⟩ : ∃ x, v4.setCell ⟨v1.heap.size, 0, none⟩ (.slice (some ⟨v0.heap.size, 0, none⟩) N N) = x := ⟨_, rfl⟩
              rw [hwd] at S HB ⊢
              clear hwd
              refine treeB_node ?_
              simp only [opsAt, List.filterMap_nil]
              refine wpQuiet_nil ?_
              refine all_one ?_
              · intro K hK
                refine loud_op rfl rfl ?_
                have x0 := S.out.get 0 0 rfl rfl
                have z0 := S.out.free 0 0 rfl
                go_simp
                have S := Lib.hid ((S.out.set 0 0 (.slice (some ⟨v2.heap.size, 0, none⟩) N N) rfl).fix)
                have HB := Lib.hid (HB.out.setCell (p := ⟨v3.heap.size, 0, none⟩) HL5.out (.slice (some ⟨v2.heap.size, 0, none⟩) N N))
                refine hK _ _ HB.out ?_
                clear hK K x0 z0
                obtain ⟨v6, hwd⟩ : ∃ x, v5.setCell ⟨v3.heap.size, 0, none⟩ (.slice (some ⟨v2.heap.size, 0, none⟩) N N) = x := ⟨_, rfl⟩
                rw [hwd] at S HB ⊢
                clear hwd
                refine treeB_last ?_
                simp only [opsAt, List.filterMap_nil]
                refine wpQuiet_nil ?_
                refine hKQ _ _ ⟨rfl, v1.heap.size, v3.heap.size, v0.heap.size, v2.heap.size, ?_, S.out.perm ((List.perm_middle (l₁ := [_, _]) (l₂ := [_])).trans (List.Perm.cons _ (List.Perm.cons _ ((List.perm_middle (l₁ := [_]) (l₂ := [])).trans (List.Perm.cons _ (List.Perm.cons _ (List.Perm.refl _)))))))⟩
                kernel_rfl
        · intro K hK
          refine loud_op rfl rfl ?_
          go_simp
          have hbq := (Below.refl v2.heap.size v2).alloc (Nat.le_refl _) (.cells #[.slice none 0 0] 120)
          have S := Lib.hid (S.out.fix.alloc [.slice none 0 0] 120)
          have HL5 := Lib.hid HB.out.size
          obtain ⟨v3, hwd⟩ : ∃ x, v2.alloc (.cells #[.slice none 0 0] 120) = x := ⟨_, rfl⟩
          have S := Lib.hid (show St w v3 (v2.heap.size + 1) _ from by rw [← hwd]; exact S.out)
          rw [hwd] at hbq ⊢
          have S := Lib.hid S.out.fix
          have HB := Lib.hid (bto HB.out hbq)
          refine hK _ _ HB.out ?_
          clear hK K hbq hwd
          refine treeB_node ?_
          simp only [opsAt, List.filterMap_nil]
          refine wpQuiet_nil ?_
          refine all_two ?_ ?_
          · intro K hK
            refine loud_op rfl rfl ?_
            refine wp_make (.tmp 27) (.tmp 27) 120 rfl w.heap.size 124 j0 (.agg #[.int .i64 0, .int .i64 0, .int .i64 0, .int .i64 0, .int .i64 0]) 5 Tryz.underlying120 ki kz0 kz1 .i64 .i64 _ _ N rfl rfl rfl rfl kb hb2 S.out.bel.size ?_
            intro v4 hown hgr
            have hbq : Below v3.heap.size v3 v4 := ⟨hgr.os, hgr.tape, hgr.output, hgr.size, fun k hk => hgr.block k hk (by simp)⟩
            have S := Lib.hid (S.out.made' hgr hown)
            rw [show (Value.agg #[Value.int IntKind.i64 0, .int .i64 0, .int .i64 0, .int .i64 0, .int .i64 0]).cells = #[Value.int IntKind.i64 0, .int .i64 0, .int .i64 0, .int .i64 0, .int .i64 0] from rfl, madeA] at S
            have HB := Lib.hid (bto HB.out hbq)
            refine hK _ _ HB.out ?_
            clear hK K hown hgr hbq
            refine treeB_node ?_
            simp only [opsAt, List.filterMap_nil]
            refine wpQuiet_nil ?_
            refine all_one ?_
            · intro K hK
              refine loud_op rfl rfl ?_
              have x0 := S.out.get 2 0 rfl rfl
              have z0 := S.out.free 2 0 rfl
              go_simp
              have S := Lib.hid ((S.out.set 2 0 (.slice (some ⟨v0.heap.size, 0, none⟩) N N) rfl).fix)
              have HB := Lib.hid (HB.out.setCell (p := ⟨v1.heap.size, 0, none⟩) HL4.out (.slice (some ⟨v0.heap.size, 0, none⟩) N N))
              refine hK _ _ HB.out ?_
              clear hK K x0 z0
              obtain ⟨v5, hwd⟩ : ∃ x, v4.setCell ⟨v1.heap.size, 0, none⟩ (.slice (some ⟨v0.heap.size, 0, none⟩) N N) = x := ⟨_, rfl⟩
              rw [hwd] at S HB ⊢
              clear hwd
              refine treeB_node ?_
              simp only [opsAt, List.filterMap_nil]
              refine wpQuiet_nil ?_
              refine all_one ?_
              · intro K hK
                refine loud_op rfl rfl ?_
                have x0 := S.out.get 1 0 rfl rfl
                have z0 := S.out.free 1 0 rfl
                go_simp
                have S := Lib.hid ((S.out.set 1 0 (.slice (some ⟨v3.heap.size, 0, none⟩) N N) rfl).fix)
                have HB := Lib.hid (HB.out.setCell (p := ⟨v2.heap.size, 0, none⟩) HL5.out (.slice (some ⟨v3.heap.size, 0, none⟩) N N))
                refine hK _ _ HB.out ?_
                clear hK K x0 z0
                obtain ⟨v6, hwd⟩ : ∃ x, v5.setCell ⟨v2.heap.size, 0, none⟩ (.slice (some ⟨v3.heap.size, 0, none⟩) N N) = x := ⟨_, rfl⟩
                rw [hwd] at S HB ⊢
                clear hwd
                refine treeB_last ?_
                simp only [opsAt, List.filterMap_nil]
                refine wpQuiet_nil ?_
                refine hKQ _ _ ⟨rfl, v1.heap.size, v2.heap.size, v0.heap.size, v3.heap.size, ?_, S.out.perm ((List.perm_middle (l₁ := [_, _]) (l₂ := [_])).trans (List.Perm.cons _ ((List.perm_middle (l₁ := [_]) (l₂ := [_])).trans (List.Perm.cons _ ((List.perm_middle (l₁ := [_]) (l₂ := [])).trans (List.Perm.cons _ (List.Perm.cons _ (List.Perm.refl _))))))))⟩
                kernel_rfl
          · intro K hK
            refine loud_op rfl rfl ?_
            have x0 := S.out.get 1 0 rfl rfl
            have z0 := S.out.free 1 0 rfl
            go_simp
            have S := Lib.hid ((S.out.set 1 0 (.slice (some ⟨v0.heap.size, 0, none⟩) N N) rfl).fix)
            have HB := Lib.hid (HB.out.setCell (p := ⟨v1.heap.size, 0, none⟩) HL4.out (.slice (some ⟨v0.heap.size, 0, none⟩) N N))
            refine hK _ _ HB.out ?_
            clear hK K x0 z0
            obtain ⟨v4, hwd⟩ : ∃ x, v3.setCell ⟨v1.heap.size, 0, none⟩ (.slice (some ⟨v0.heap.size, 0, none⟩) N N) = x := ⟨_, rfl⟩
            rw [hwd] at S HB ⊢
            clear hwd
            refine treeB_node ?_
            simp only [opsAt, List.filterMap_nil]
            refine wpQuiet_nil ?_
            refine all_one ?_
            · intro K hK
              refine loud_op rfl rfl ?_
              refine wp_make (.tmp 27) (.tmp 27) 120 rfl w.heap.size 124 j0 (.agg #[.int .i64 0, .int .i64 0, .int .i64 0, .int .i64 0, .int .i64 0]) 5 Tryz.underlying120 ki kz0 kz1 .i64 .i64 _ _ N rfl rfl rfl rfl kb hb2 S.out.bel.size ?_
              intro v5 hown hgr
              have hbq : Below v4.heap.size v4 v5 := ⟨hgr.os, hgr.tape, hgr.output, hgr.size, fun k hk => hgr.block k hk (by simp)⟩
              have S := Lib.hid (S.out.made' hgr hown)
              rw [show (Value.agg #[Value.int IntKind.i64 0, .int .i64 0, .int .i64 0, .int .i64 0, .int .i64 0]).cells = #[Value.int IntKind.i64 0, .int .i64 0, .int .i64 0, .int .i64 0, .int .i64 0] from rfl, madeA] at S
              have HB := Lib.hid (bto HB.out hbq)
              refine hK _ _ HB.out ?_
              clear hK K hown hgr hbq
              refine treeB_node ?_
              simp only [opsAt, List.filterMap_nil]
              refine wpQuiet_nil ?_
              refine all_one ?_
              · intro K hK
                refine loud_op rfl rfl ?_
                have x0 := S.out.get 1 0 rfl rfl
                have z0 := S.out.free 1 0 rfl
                go_simp
                have S := Lib.hid ((S.out.set 1 0 (.slice (some ⟨v4.heap.size, 0, none⟩) N N) rfl).fix)
                have HB := Lib.hid (HB.out.setCell (p := ⟨v2.heap.size, 0, none⟩) HL5.out (.slice (some ⟨v4.heap.size, 0, none⟩) N N))
                refine hK _ _ HB.out ?_
                clear hK K x0 z0
                obtain ⟨v6, hwd⟩ : ∃ x, v5.setCell ⟨v2.heap.size, 0, none⟩ (.slice (some ⟨v4.heap.size, 0, none⟩) N N) = x := ⟨_, rfl⟩
                rw [hwd] at S HB ⊢
                clear hwd
                refine treeB_last ?_
                simp only [opsAt, List.filterMap_nil]
                refine wpQuiet_nil ?_
                refine hKQ _ _ ⟨rfl, v1.heap.size, v2.heap.size, v0.heap.size, v4.heap.size, ?_, S.out.perm ((List.perm_middle (l₁ := [_, _]) (l₂ := [_])).trans (List.Perm.cons _ ((List.perm_middle (l₁ := [_]) (l₂ := [_])).trans (List.Perm.cons _ ((List.perm_middle (l₁ := [_]) (l₂ := [])).trans (List.Perm.cons _ (List.Perm.cons _ (List.Perm.refl _))))))))⟩
                kernel_rfl
      · intro K hK
        refine loud_op rfl rfl ?_
        go_simp
        have hbq := (Below.refl v1.heap.size v1).alloc (Nat.le_refl _) (.cells #[.slice none 0 0] 120)
        have S := Lib.hid (S.out.fix.alloc [.slice none 0 0] 120)
        have HL5 := Lib.hid HB.out.size
        obtain ⟨v2, hwd⟩ : ∃ x, v1.alloc (.cells #[.slice none 0 0] 120) = x := ⟨_, rfl⟩
        have S := Lib.hid (show St w v2 (v1.heap.size + 1) _ from by rw [← hwd]; exact S.out)
        rw [hwd] at hbq ⊢
        have S := Lib.hid S.out.fix
        have HB := Lib.hid (bto HB.out hbq)
        refine hK _ _ HB.out ?_
        clear hK K hbq hwd
        refine treeB_node ?_
        simp only [opsAt, List.filterMap_nil]
        refine wpQuiet_nil ?_
        refine all_two ?_ ?_
        · intro K hK
          refine loud_op rfl rfl ?_
          refine wp_make (.tmp 27) (.tmp 27) 120 rfl w.heap.size 124 j0 (.agg #[.int .i64 0, .int .i64 0, .int .i64 0, .int .i64 0, .int .i64 0]) 5 Tryz.underlying120 ki kz0 kz1 .i64 .i64 _ _ N rfl rfl rfl rfl kb hb2 S.out.bel.size ?_
          intro v3 hown hgr
          have hbq : Below v2.heap.size v2 v3 := ⟨hgr.os, hgr.tape, hgr.output, hgr.size, fun k hk => hgr.block k hk (by simp)⟩
          have S := Lib.hid (S.out.made' hgr hown)
          rw [show (Value.agg #[Value.int IntKind.i64 0, .int .i64 0, .int .i64 0, .int .i64 0, .int .i64 0]).cells = #[Value.int IntKind.i64 0, .int .i64 0, .int .i64 0, .int .i64 0, .int .i64 0] from rfl, madeA] at S
          have HB := Lib.hid (bto HB.out hbq)
          refine hK _ _ HB.out ?_
          clear hK K hown hgr hbq
          refine treeB_node ?_
          simp only [opsAt, List.filterMap_nil]
          refine wpQuiet_nil ?_
          refine all_one ?_
          · intro K hK
            refine loud_op rfl rfl ?_
            go_simp
            have hbq := (Below.refl v3.heap.size v3).alloc (Nat.le_refl _) (.cells #[.slice none 0 0] 22)
            have S := Lib.hid (S.out.fix.alloc [.slice none 0 0] 22)
            have HL4 := Lib.hid HB.out.size
            obtain ⟨v4, hwd⟩ : ∃ x, v3.alloc (.cells #[.slice none 0 0] 22) = x := ⟨_, rfl⟩
            have S := Lib.hid (show St w v4 (v3.heap.size + 1) _ from by rw [← hwd]; exact S.out)
            rw [hwd] at hbq ⊢
            have S := Lib.hid S.out.fix
            have HB := Lib.hid (bto HB.out hbq)
            refine hK _ _ HB.out ?_
            clear hK K hbq hwd
            refine treeB_node ?_
            simp only [opsAt, List.filterMap_nil]
            refine wpQuiet_nil ?_
            refine all_one ?_
            · intro K hK
              refine loud_op rfl rfl ?_
              have x0 := S.out.get 0 0 rfl rfl
              have z0 := S.out.free 0 0 rfl
              go_simp
              have S := Lib.hid ((S.out.set 0 0 (.slice (some ⟨v0.heap.size, 0, none⟩) N N) rfl).fix)
              have HB := Lib.hid (HB.out.setCell (p := ⟨v3.heap.size, 0, none⟩) HL4.out (.slice (some ⟨v0.heap.size, 0, none⟩) N N))
              refine hK _ _ HB.out ?_
              clear hK K x0 z0
              obtain ⟨v5, hwd⟩ : ∃ x, v4.setCell ⟨v3.heap.size, 0, none⟩ (.slice (some ⟨v0.heap.size, 0, none⟩) N N) = x := ⟨_, rfl⟩
              rw [hwd] at S HB ⊢
              clear hwd
              refine treeB_node ?_
              simp only [opsAt, List.filterMap_nil]
              refine wpQuiet_nil ?_
              refine all_one ?_
              · intro K hK
                refine loud_op rfl rfl ?_
                have x0 := S.out.get 2 0 rfl rfl
                have z0 := S.out.free 2 0 rfl
                go_simp
                have S := Lib.hid ((S.out.set 2 0 (.slice (some ⟨v2.heap.size, 0, none⟩) N N) rfl).fix)
                have HB := Lib.hid (HB.out.setCell (p := ⟨v1.heap.size, 0, none⟩) HL5.out (.slice (some ⟨v2.heap.size, 0, none⟩) N N))
                refine hK _ _ HB.out ?_
                clear hK K x0 z0
                obtain ⟨v6, hwd⟩ : ∃ x, v5.setCell ⟨v1.heap.size, 0, none⟩ (.slice (some ⟨v2.heap.size, 0, none⟩) N N) = x := ⟨_, rfl⟩
                rw [hwd] at S HB ⊢
                clear hwd
                refine treeB_last ?_
                simp only [opsAt, List.filterMap_nil]
                refine wpQuiet_nil ?_
                refine hKQ _ _ ⟨rfl, v3.heap.size, v1.heap.size, v0.heap.size, v2.heap.size, ?_, S.out.perm (List.Perm.cons _ ((List.perm_middle (l₁ := [_]) (l₂ := [_])).trans (List.Perm.cons _ ((List.perm_middle (l₁ := [_]) (l₂ := [])).trans (List.Perm.cons _ (List.Perm.cons _ (List.Perm.refl _)))))))⟩
                kernel_rfl
        · intro K hK
          refine loud_op rfl rfl ?_
          go_simp
          have hbq := (Below.refl v2.heap.size v2).alloc (Nat.le_refl _) (.cells #[.slice none 0 0] 22)
          have S := Lib.hid (S.out.fix.alloc [.slice none 0 0] 22)
          have HL4 := Lib.hid HB.out.size
          obtain ⟨v3, hwd⟩ : ∃ x, v2.alloc (.cells #[.slice none 0 0] 22) = x := ⟨_, rfl⟩
          have S := Lib.hid (show St w v3 (v2.heap.size + 1) _ from by rw [← hwd]; exact S.out)
          rw [hwd] at hbq ⊢
          have S := Lib.hid S.out.fix
          have HB := Lib.hid (bto HB.out hbq)
          refine hK _ _ HB.out ?_
          clear hK K hbq hwd
          refine treeB_node ?_
          simp only [opsAt, List.filterMap_nil]
          refine wpQuiet_nil ?_
          refine all_two ?_ ?_
          · intro K hK
            refine loud_op rfl rfl ?_
            refine wp_make (.tmp 27) (.tmp 27) 120 rfl w.heap.size 124 j0 (.agg #[.int .i64 0, .int .i64 0, .int .i64 0, .int .i64 0, .int .i64 0]) 5 Tryz.underlying120 ki kz0 kz1 .i64 .i64 _ _ N rfl rfl rfl rfl kb hb2 S.out.bel.size ?_
            intro v4 hown hgr
            have hbq : Below v3.heap.size v3 v4 := ⟨hgr.os, hgr.tape, hgr.output, hgr.size, fun k hk => hgr.block k hk (by simp)⟩
            have S := Lib.hid (S.out.made' hgr hown)
            rw [show (Value.agg #[Value.int IntKind.i64 0, .int .i64 0, .int .i64 0, .int .i64 0, .int .i64 0]).cells = #[Value.int IntKind.i64 0, .int .i64 0, .int .i64 0, .int .i64 0, .int .i64 0] from rfl, madeA] at S
            have HB := Lib.hid (bto HB.out hbq)
            refine hK _ _ HB.out ?_
            clear hK K hown hgr hbq
            refine treeB_node ?_
            simp only [opsAt, List.filterMap_nil]
            refine wpQuiet_nil ?_
            refine all_one ?_
            · intro K hK
              refine loud_op rfl rfl ?_
              have x0 := S.out.get 1 0 rfl rfl
              have z0 := S.out.free 1 0 rfl
              go_simp
              have S := Lib.hid ((S.out.set 1 0 (.slice (some ⟨v0.heap.size, 0, none⟩) N N) rfl).fix)
              have HB := Lib.hid (HB.out.setCell (p := ⟨v2.heap.size, 0, none⟩) HL4.out (.slice (some ⟨v0.heap.size, 0, none⟩) N N))
              refine hK _ _ HB.out ?_
              clear hK K x0 z0
              obtain ⟨v5, hwd⟩ : ∃ x, v4.setCell ⟨v2.heap.size, 0, none⟩ (.slice (some ⟨v0.heap.size, 0, none⟩) N N) = x := ⟨_, rfl⟩
              rw [hwd] at S HB ⊢
              clear hwd
              refine treeB_node ?_
              simp only [opsAt, List.filterMap_nil]
              refine wpQuiet_nil ?_
              refine all_one ?_
              · intro K hK
                refine loud_op rfl rfl ?_
                have x0 := S.out.get 2 0 rfl rfl
                have z0 := S.out.free 2 0 rfl
                go_simp
                have S := Lib.hid ((S.out.set 2 0 (.slice (some ⟨v3.heap.size, 0, none⟩) N N) rfl).fix)
                have HB := Lib.hid (HB.out.setCell (p := ⟨v1.heap.size, 0, none⟩) HL5.out (.slice (some ⟨v3.heap.size, 0, none⟩) N N))
                refine hK _ _ HB.out ?_
                clear hK K x0 z0
                obtain ⟨v6, hwd⟩ : ∃ x, v5.setCell ⟨v1.heap.size, 0, none⟩ (.slice (some ⟨v3.heap.size, 0, none⟩) N N) = x := ⟨_, rfl⟩
                rw [hwd] at S HB ⊢
                clear hwd
                refine treeB_last ?_
                simp only [opsAt, List.filterMap_nil]
                refine wpQuiet_nil ?_
                refine hKQ _ _ ⟨rfl, v2.heap.size, v1.heap.size, v0.heap.size, v3.heap.size, ?_, S.out.perm ((List.perm_middle (l₁ := [_]) (l₂ := [_, _])).trans (List.Perm.cons _ ((List.perm_middle (l₁ := [_]) (l₂ := [_])).trans (List.Perm.cons _ ((List.perm_middle (l₁ := [_]) (l₂ := [])).trans (List.Perm.cons _ (List.Perm.cons _ (List.Perm.refl _))))))))⟩
                kernel_rfl
          · intro K hK
            refine loud_op rfl rfl ?_
            have x0 := S.out.get 0 0 rfl rfl
            have z0 := S.out.free 0 0 rfl
            go_simp
            have S := Lib.hid ((S.out.set 0 0 (.slice (some ⟨v0.heap.size, 0, none⟩) N N) rfl).fix)
            have HB := Lib.hid (HB.out.setCell (p := ⟨v2.heap.size, 0, none⟩) HL4.out (.slice (some ⟨v0.heap.size, 0, none⟩) N N))
            refine hK _ _ HB.out ?_
            clear hK K x0 z0
            obtain ⟨v4, hwd⟩ : ∃ x, v3.setCell ⟨v2.heap.size, 0, none⟩ (.slice (some ⟨v0.heap.size, 0, none⟩) N N) = x := ⟨_, rfl⟩
            rw [hwd] at S HB ⊢
            clear hwd
            refine treeB_node ?_
            simp only [opsAt, List.filterMap_nil]
            refine wpQuiet_nil ?_
            refine all_one ?_
            · intro K hK
              refine loud_op rfl rfl ?_
              refine wp_make (.tmp 27) (.tmp 27) 120 rfl w.heap.size 124 j0 (.agg #[.int .i64 0, .int .i64 0, .int .i64 0, .int .i64 0, .int .i64 0]) 5 Tryz.underlying120 ki kz0 kz1 .i64 .i64 _ _ N rfl rfl rfl rfl kb hb2 S.out.bel.size ?_
              intro v5 hown hgr
              have hbq : Below v4.heap.size v4 v5 := ⟨hgr.os, hgr.tape, hgr.output, hgr.size, fun k hk => hgr.block k hk (by simp)⟩
              have S := Lib.hid (S.out.made' hgr hown)
              rw [show (Value.agg #[Value.int IntKind.i64 0, .int .i64 0, .int .i64 0, .int .i64 0, .int .i64 0]).cells = #[Value.int IntKind.i64 0, .int .i64 0, .int .i64 0, .int .i64 0, .int .i64 0] from rfl, madeA] at S
              have HB := Lib.hid (bto HB.out hbq)
              refine hK _ _ HB.out ?_
              clear hK K hown hgr hbq
              refine treeB_node ?_
              simp only [opsAt, List.filterMap_nil]
              refine wpQuiet_nil ?_
              refine all_one ?_
              · intro K hK
                refine loud_op rfl rfl ?_
                have x0 := S.out.get 2 0 rfl rfl
                have z0 := S.out.free 2 0 rfl
                go_simp
                have S := Lib.hid ((S.out.set 2 0 (.slice (some ⟨v4.heap.size, 0, none⟩) N N) rfl).fix)
                have HB := Lib.hid (HB.out.setCell (p := ⟨v1.heap.size, 0, none⟩) HL5.out (.slice (some ⟨v4.heap.size, 0, none⟩) N N))
                refine hK _ _ HB.out ?_
                clear hK K x0 z0
                obtain ⟨v6, hwd⟩ : ∃ x, v5.setCell ⟨v1.heap.size, 0, none⟩ (.slice (some ⟨v4.heap.size, 0, none⟩) N N) = x := ⟨_, rfl⟩
                rw [hwd] at S HB ⊢
                clear hwd
                refine treeB_last ?_
                simp only [opsAt, List.filterMap_nil]
                refine wpQuiet_nil ?_
                refine hKQ _ _ ⟨rfl, v2.heap.size, v1.heap.size, v0.heap.size, v4.heap.size, ?_, S.out.perm ((List.perm_middle (l₁ := [_]) (l₂ := [_, _])).trans (List.Perm.cons _ ((List.perm_middle (l₁ := [_]) (l₂ := [_])).trans (List.Perm.cons _ ((List.perm_middle (l₁ := [_]) (l₂ := [])).trans (List.Perm.cons _ (List.Perm.cons _ (List.Perm.refl _))))))))⟩
                kernel_rfl
    · intro K hK
      refine loud_op rfl rfl ?_
      refine wp_make (.tmp 27) (.tmp 27) 120 rfl w.heap.size 124 j0 (.agg #[.int .i64 0, .int .i64 0, .int .i64 0, .int .i64 0, .int .i64 0]) 5 Tryz.underlying120 ki kz0 kz1 .i64 .i64 _ _ N rfl rfl rfl rfl kb hb2 S.out.bel.size ?_
      intro v1 hown hgr
      have hbq : Below v0.heap.size v0 v1 := ⟨hgr.os, hgr.tape, hgr.output, hgr.size, fun k hk => hgr.block k hk (by simp)⟩
      have S := Lib.hid (S.out.made' hgr hown)
      rw [show (Value.agg #[Value.int IntKind.i64 0, .int .i64 0, .int .i64 0, .int .i64 0, .int .i64 0]).cells = #[Value.int IntKind.i64 0, .int .i64 0, .int .i64 0, .int .i64 0, .int .i64 0] from rfl, madeA] at S
      have HB := Lib.hid (bto HB.out hbq)
      refine hK _ _ HB.out ?_
      clear hK K hown hgr hbq
      refine treeB_node ?_
      simp only [opsAt, List.filterMap_nil]
      refine wpQuiet_nil ?_
      refine all_three ?_ ?_ ?_
      · intro K hK
        refine loud_op rfl rfl ?_
        refine wp_make (.tmp 25) (.tmp 25) 22 rfl w.heap.size 3 i0 (.int .i64 0) 1 Tryz.underlying22 hi hz0 hz1 .i64 .i64 _ _ N rfl rfl rfl rfl hb hb2 S.out.bel.size ?_
        intro v2 hown hgr
        have hbq : Below v1.heap.size v1 v2 := ⟨hgr.os, hgr.tape, hgr.output, hgr.size, fun k hk => hgr.block k hk (by simp)⟩
        have S := Lib.hid (S.out.made' hgr hown)
        rw [madeI'] at S
        have HB := Lib.hid (bto HB.out hbq)
        refine hK _ _ HB.out ?_
        clear hK K hown hgr hbq
        refine treeB_node ?_
        simp only [opsAt, List.filterMap_nil]
        refine wpQuiet_nil ?_
        refine all_two ?_ ?_
        · intro K hK
          refine loud_op rfl rfl ?_
          go_simp
          have hbq := (Below.refl v2.heap.size v2).alloc (Nat.le_refl _) (.cells #[.slice none 0 0] 22)
          have S := Lib.hid (S.out.fix.alloc [.slice none 0 0] 22)
          have HL4 := Lib.hid HB.out.size
          obtain ⟨v3, hwd⟩ : ∃ x, v2.alloc (.cells #[.slice none 0 0] 22) = x := ⟨_, rfl⟩
          have S := Lib.hid (show St w v3 (v2.heap.size + 1) _ from by rw [← hwd]; exact S.out)
          rw [hwd] at hbq ⊢
          have S := Lib.hid S.out.fix
          have HB := Lib.hid (bto HB.out hbq)
          refine hK _ _ HB.out ?_
          clear hK K hbq hwd
          refine treeB_node ?_
          simp only [opsAt, List.filterMap_nil]
          refine wpQuiet_nil ?_
          refine all_one ?_
          · intro K hK
            refine loud_op rfl rfl ?_
            go_simp
            have hbq := (Below.refl v3.heap.size v3).alloc (Nat.le_refl _) (.cells #[.slice none 0 0] 120)
            have S := Lib.hid (S.out.fix.alloc [.slice none 0 0] 120)
            have HL5 := Lib.hid HB.out.size
            obtain ⟨v4, hwd⟩ : ∃ x, v3.alloc (.cells #[.slice none 0 0] 120) = x := ⟨_, rfl⟩
            have S := Lib.hid (show St w v4 (v3.heap.size + 1) _ from by rw [← hwd]; exact S.out)
            rw [hwd] at hbq ⊢
            have S := Lib.hid S.out.fix
            have HB := Lib.hid (bto HB.out hbq)
            refine hK _ _ HB.out ?_
            clear hK K hbq hwd
            refine treeB_node ?_
            simp only [opsAt, List.filterMap_nil]
            refine wpQuiet_nil ?_
            refine all_one ?_
            · intro K hK
              refine loud_op rfl rfl ?_
              have x0 := S.out.get 1 0 rfl rfl
              have z0 := S.out.free 1 0 rfl
              go_simp
              have S := Lib.hid ((S.out.set 1 0 (.slice (some ⟨v1.heap.size, 0, none⟩) N N) rfl).fix)
              have HB := Lib.hid (HB.out.setCell (p := ⟨v2.heap.size, 0, none⟩) HL4.out (.slice (some ⟨v1.heap.size, 0, none⟩) N N))
              refine hK _ _ HB.out ?_
              clear hK K x0 z0
              obtain ⟨v5, hwd⟩ : ∃ x, v4.setCell ⟨v2.heap.size, 0, none⟩ (.slice (some ⟨v1.heap.size, 0, none⟩) N N) = x := ⟨_, rfl⟩
              rw [hwd] at S HB ⊢
              clear hwd
              refine treeB_node ?_
              simp only [opsAt, List.filterMap_nil]
              refine wpQuiet_nil ?_
              refine all_one ?_
              · intro K hK
                refine loud_op rfl rfl ?_
                have x0 := S.out.get 0 0 rfl rfl
                have z0 := S.out.free 0 0 rfl
                go_simp
                have S := Lib.hid ((S.out.set 0 0 (.slice (some ⟨v0.heap.size, 0, none⟩) N N) rfl).fix)
                have HB := Lib.hid (HB.out.setCell (p := ⟨v3.heap.size, 0, none⟩) HL5.out (.slice (some ⟨v0.heap.size, 0, none⟩) N N))
                refine hK _ _ HB.out ?_
                clear hK K x0 z0
                obtain ⟨v6, hwd⟩ : ∃ x, v5.setCell ⟨v3.heap.size, 0, none⟩ (.slice (some ⟨v0.heap.size, 0, none⟩) N N) = x := ⟨_, rfl⟩
                rw [hwd] at S HB ⊢
                clear hwd
                refine treeB_last ?_
                simp only [opsAt, List.filterMap_nil]
                refine wpQuiet_nil ?_
                refine hKQ _ _ ⟨rfl, v2.heap.size, v3.heap.size, v1.heap.size, v0.heap.size, ?_, S.out.perm ((List.perm_middle (l₁ := [_]) (l₂ := [_, _])).trans (List.Perm.cons _ (List.Perm.cons _ (List.Perm.cons _ (List.Perm.cons _ (List.Perm.refl _))))))⟩
                kernel_rfl
        · intro K hK
          refine loud_op rfl rfl ?_
          go_simp
          have hbq := (Below.refl v2.heap.size v2).alloc (Nat.le_refl _) (.cells #[.slice none 0 0] 120)
          have S := Lib.hid (S.out.fix.alloc [.slice none 0 0] 120)
          have HL5 := Lib.hid HB.out.size
          obtain ⟨v3, hwd⟩ : ∃ x, v2.alloc (.cells #[.slice none 0 0] 120) = x := ⟨_, rfl⟩
          have S := Lib.hid (show St w v3 (v2.heap.size + 1) _ from by rw [← hwd]; exact S.out)
          rw [hwd] at hbq ⊢
          have S := Lib.hid S.out.fix
          have HB := Lib.hid (bto HB.out hbq)
          refine hK _ _ HB.out ?_
          clear hK K hbq hwd
          refine treeB_node ?_
          simp only [opsAt, List.filterMap_nil]
          refine wpQuiet_nil ?_
          refine all_one ?_
          · intro K hK
            refine loud_op rfl rfl ?_
            go_simp
            have hbq := (Below.refl v3.heap.size v3).alloc (Nat.le_refl _) (.cells #[.slice none 0 0] 22)
            have S := Lib.hid (S.out.fix.alloc [.slice none 0 0] 22)
            have HL4 := Lib.hid HB.out.size
            obtain ⟨v4, hwd⟩ : ∃ x, v3.alloc (.cells #[.slice none 0 0] 22) = x := ⟨_, rfl⟩
            have S := Lib.hid (show St w v4 (v3.heap.size + 1) _ from by rw [← hwd]; exact S.out)
            rw [hwd] at hbq ⊢
            have S := Lib.hid S.out.fix
            have HB := Lib.hid (bto HB.out hbq)
            refine hK _ _ HB.out ?_
            clear hK K hbq hwd
            refine treeB_node ?_
            simp only [opsAt, List.filterMap_nil]
            refine wpQuiet_nil ?_
            refine all_one ?_
            · intro K hK
              refine loud_op rfl rfl ?_
              have x0 := S.out.get 0 0 rfl rfl
              have z0 := S.out.free 0 0 rfl
              go_simp
              have S := Lib.hid ((S.out.set 0 0 (.slice (some ⟨v1.heap.size, 0, none⟩) N N) rfl).fix)
              have HB := Lib.hid (HB.out.setCell (p := ⟨v3.heap.size, 0, none⟩) HL4.out (.slice (some ⟨v1.heap.size, 0, none⟩) N N))
              refine hK _ _ HB.out ?_
              clear hK K x0 z0
              obtain ⟨v5, hwd⟩ : ∃ x, v4.setCell ⟨v3.heap.size, 0, none⟩ (.slice (some ⟨v1.heap.size, 0, none⟩) N N) = x := ⟨_, rfl⟩
              rw [hwd] at S HB ⊢
              clear hwd
              refine treeB_node ?_
              simp only [opsAt, List.filterMap_nil]
              refine wpQuiet_nil ?_
              refine all_one ?_
              · intro K hK
                refine loud_op rfl rfl ?_
                have x0 := S.out.get 1 0 rfl rfl
                have z0 := S.out.free 1 0 rfl
                go_simp
                have S := Lib.hid ((S.out.set 1 0 (.slice (some ⟨v0.heap.size, 0, none⟩) N N) rfl).fix)
                have HB := Lib.hid (HB.out.setCell (p := ⟨v2.heap.size, 0, none⟩) HL5.out (.slice (some ⟨v0.heap.size, 0, none⟩) N N))
                refine hK _ _ HB.out ?_
                clear hK K x0 z0
                obtain ⟨v6, hwd⟩ : ∃ x, v5.setCell ⟨v2.heap.size, 0, none⟩ (.slice (some ⟨v0.heap.size, 0, none⟩) N N) = x := ⟨_, rfl⟩
                rw [hwd] at S HB ⊢
                clear hwd
                refine treeB_last ?_
                simp only [opsAt, List.filterMap_nil]
                refine wpQuiet_nil ?_
                refine hKQ _ _ ⟨rfl, v3.heap.size, v2.heap.size, v1.heap.size, v0.heap.size, ?_, S.out.perm (List.Perm.cons _ (List.Perm.cons _ (List.Perm.cons _ (List.Perm.cons _ (List.Perm.refl _)))))⟩
                kernel_rfl
      · intro K hK
        refine loud_op rfl rfl ?_
        go_simp
        have hbq := (Below.refl v1.heap.size v1).alloc (Nat.le_refl _) (.cells #[.slice none 0 0] 22)
        have S := Lib.hid (S.out.fix.alloc [.slice none 0 0] 22)
        have HL4 := Lib.hid HB.out.size
        obtain ⟨v2, hwd⟩ : ∃ x, v1.alloc (.cells #[.slice none 0 0] 22) = x := ⟨_, rfl⟩
        have S := Lib.hid (show St w v2 (v1.heap.size + 1) _ from by rw [← hwd]; exact S.out)
        rw [hwd] at hbq ⊢
        have S := Lib.hid S.out.fix
        have HB := Lib.hid (bto HB.out hbq)
        refine hK _ _ HB.out ?_
        clear hK K hbq hwd
        refine treeB_node ?_
        simp only [opsAt, List.filterMap_nil]
        refine wpQuiet_nil ?_
        refine all_two ?_ ?_
        · intro K hK
          refine loud_op rfl rfl ?_
          refine wp_make (.tmp 25) (.tmp 25) 22 rfl w.heap.size 3 i0 (.int .i64 0) 1 Tryz.underlying22 hi hz0 hz1 .i64 .i64 _ _ N rfl rfl rfl rfl hb hb2 S.out.bel.size ?_
          intro v3 hown hgr
          have hbq : Below v2.heap.size v2 v3 := ⟨hgr.os, hgr.tape, hgr.output, hgr.size, fun k hk => hgr.block k hk (by simp)⟩
          have S := Lib.hid (S.out.made' hgr hown)
          rw [madeI'] at S
          have HB := Lib.hid (bto HB.out hbq)
          refine hK _ _ HB.out ?_
          clear hK K hown hgr hbq
          refine treeB_node ?_
          simp only [opsAt, List.filterMap_nil]
          refine wpQuiet_nil ?_
          refine all_one ?_
          · intro K hK
            refine loud_op rfl rfl ?_
            go_simp
            have hbq := (Below.refl v3.heap.size v3).alloc (Nat.le_refl _) (.cells #[.slice none 0 0] 120)
            have S := Lib.hid (S.out.fix.alloc [.slice none 0 0] 120)
            have HL5 := Lib.hid HB.out.size
            obtain ⟨v4, hwd⟩ : ∃ x, v3.alloc (.cells #[.slice none 0 0] 120) = x := ⟨_, rfl⟩
            have S := Lib.hid (show St w v4 (v3.heap.size + 1) _ from by rw [← hwd]; exact S.out)
            rw [hwd] at hbq ⊢
            have S := Lib.hid S.out.fix
            have HB := Lib.hid (bto HB.out hbq)
            refine hK _ _ HB.out ?_
            clear hK K hbq hwd
            refine treeB_node ?_
            simp only [opsAt, List.filterMap_nil]
            refine wpQuiet_nil ?_
            refine all_one ?_
            · intro K hK
              refine loud_op rfl rfl ?_
              have x0 := S.out.get 2 0 rfl rfl
              have z0 := S.out.free 2 0 rfl
              go_simp
              have S := Lib.hid ((S.out.set 2 0 (.slice (some ⟨v2.heap.size, 0, none⟩) N N) rfl).fix)
              have HB := Lib.hid (HB.out.setCell (p := ⟨v1.heap.size, 0, none⟩) HL4.out (.slice (some ⟨v2.heap.size, 0, none⟩) N N))
              refine hK _ _ HB.out ?_
              clear hK K x0 z0
              obtain ⟨v5, hwd⟩ : ∃ x, v4.setCell ⟨v1.heap.size, 0, none⟩ (.slice (some ⟨v2.heap.size, 0, none⟩) N N) = x := ⟨_, rfl⟩
              rw [hwd] at S HB ⊢
              clear hwd
              refine treeB_node ?_
              simp only [opsAt, List.filterMap_nil]
              refine wpQuiet_nil ?_
              refine all_one ?_
              · intro K hK
                refine loud_op rfl rfl ?_
                have x0 := S.out.get 0 0 rfl rfl
                have z0 := S.out.free 0 0 rfl
                go_simp
                have S := Lib.hid ((S.out.set 0 0 (.slice (some ⟨v0.heap.size, 0, none⟩) N N) rfl).fix)
                have HB := Lib.hid (HB.out.setCell (p := ⟨v3.heap.size, 0, none⟩) HL5.out (.slice (some ⟨v0.heap.size, 0, none⟩) N N))
                refine hK _ _ HB.out ?_
                clear hK K x0 z0
                obtain ⟨v6, hwd⟩ : ∃ x, v5.setCell ⟨v3.heap.size, 0, none⟩ (.slice (some ⟨v0.heap.size, 0, none⟩) N N) = x := ⟨_, rfl⟩
                rw [hwd] at S HB ⊢
                clear hwd
                refine treeB_last ?_
                simp only [opsAt, List.filterMap_nil]
                refine wpQuiet_nil ?_
                refine hKQ _ _ ⟨rfl, v1.heap.size, v3.heap.size, v2.heap.size, v0.heap.size, ?_, S.out.perm ((List.perm_middle (l₁ := [_, _]) (l₂ := [_])).trans (List.Perm.cons _ (List.Perm.cons _ (List.Perm.cons _ (List.Perm.cons _ (List.Perm.refl _))))))⟩
                kernel_rfl
        · intro K hK
          refine loud_op rfl rfl ?_
          go_simp
          have hbq := (Below.refl v2.heap.size v2).alloc (Nat.le_refl _) (.cells #[.slice none 0 0] 120)
          have S := Lib.hid (S.out.fix.alloc [.slice none 0 0] 120)
          have HL5 := Lib.hid HB.out.size
          obtain ⟨v3, hwd⟩ : ∃ x, v2.alloc (.cells #[.slice none 0 0] 120) = x := ⟨_, rfl⟩
          have S := Lib.hid (show St w v3 (v2.heap.size + 1) _ from by rw [← hwd]; exact S.out)
          rw [hwd] at hbq ⊢
          have S := Lib.hid S.out.fix
          have HB := Lib.hid (bto HB.out hbq)
          refine hK _ _ HB.out ?_
          clear hK K hbq hwd
          refine treeB_node ?_
          simp only [opsAt, List.filterMap_nil]
          refine wpQuiet_nil ?_
          refine all_one ?_
          · intro K hK
            refine loud_op rfl rfl ?_
            refine wp_make (.tmp 25) (.tmp 25) 22 rfl w.heap.size 3 i0 (.int .i64 0) 1 Tryz.underlying22 hi hz0 hz1 .i64 .i64 _ _ N rfl rfl rfl rfl hb hb2 S.out.bel.size ?_
            intro v4 hown hgr
            have hbq : Below v3.heap.size v3 v4 := ⟨hgr.os, hgr.tape, hgr.output, hgr.size, fun k hk => hgr.block k hk (by simp)⟩
            have S := Lib.hid (S.out.made' hgr hown)
            rw [madeI'] at S
            have HB := Lib.hid (bto HB.out hbq)
            refine hK _ _ HB.out ?_
            clear hK K hown hgr hbq
            refine treeB_node ?_
            simp only [opsAt, List.filterMap_nil]
            refine wpQuiet_nil ?_
            refine all_one ?_
            · intro K hK
              refine loud_op rfl rfl ?_
              have x0 := S.out.get 2 0 rfl rfl
              have z0 := S.out.free 2 0 rfl
              go_simp
              have S := Lib.hid ((S.out.set 2 0 (.slice (some ⟨v3.heap.size, 0, none⟩) N N) rfl).fix)
              have HB := Lib.hid (HB.out.setCell (p := ⟨v1.heap.size, 0, none⟩) HL4.out (.slice (some ⟨v3.heap.size, 0, none⟩) N N))
              refine hK _ _ HB.out ?_
              clear hK K x0 z0
              obtain ⟨v5, hwd⟩ : ∃ x, v4.setCell ⟨v1.heap.size, 0, none⟩ (.slice (some ⟨v3.heap.size, 0, none⟩) N N) = x := ⟨_, rfl⟩
              rw [hwd] at S HB ⊢
              clear hwd
              refine treeB_node ?_
              simp only [opsAt, List.filterMap_nil]
              refine wpQuiet_nil ?_
              refine all_one ?_
              · intro K hK
                refine loud_op rfl rfl ?_
                have x0 := S.out.get 1 0 rfl rfl
                have z0 := S.out.free 1 0 rfl
                go_simp
                have S := Lib.hid ((S.out.set 1 0 (.slice (some ⟨v0.heap.size, 0, none⟩) N N) rfl).fix)
                have HB := Lib.hid (HB.out.setCell (p := ⟨v2.heap.size, 0, none⟩) HL5.out (.slice (some ⟨v0.heap.size, 0, none⟩) N N))
                refine hK _ _ HB.out ?_
                clear hK K x0 z0
                obtain ⟨v6, hwd⟩ : ∃ x, v5.setCell ⟨v2.heap.size, 0, none⟩ (.slice (some ⟨v0.heap.size, 0, none⟩) N N) = x := ⟨_, rfl⟩
                rw [hwd] at S HB ⊢
                clear hwd
                refine treeB_last ?_
                simp only [opsAt, List.filterMap_nil]
                refine wpQuiet_nil ?_
                refine hKQ _ _ ⟨rfl, v1.heap.size, v2.heap.size, v3.heap.size, v0.heap.size, ?_, S.out.perm ((List.perm_middle (l₁ := [_, _]) (l₂ := [_])).trans (List.Perm.cons _ ((List.perm_middle (l₁ := [_]) (l₂ := [_])).trans (List.Perm.cons _ (List.Perm.cons _ (List.Perm.cons _ (List.Perm.refl _)))))))⟩
                kernel_rfl
      · intro K hK
        refine loud_op rfl rfl ?_
        go_simp
        have hbq := (Below.refl v1.heap.size v1).alloc (Nat.le_refl _) (.cells #[.slice none 0 0] 120)
        have S := Lib.hid (S.out.fix.alloc [.slice none 0 0] 120)
        have HL5 := Lib.hid HB.out.size
        obtain ⟨v2, hwd⟩ : ∃ x, v1.alloc (.cells #[.slice none 0 0] 120) = x := ⟨_, rfl⟩
        have S := Lib.hid (show St w v2 (v1.heap.size + 1) _ from by rw [← hwd]; exact S.out)
        rw [hwd] at hbq ⊢
        have S := Lib.hid S.out.fix
        have HB := Lib.hid (bto HB.out hbq)
        refine hK _ _ HB.out ?_
        clear hK K hbq hwd
        refine treeB_node ?_
        simp only [opsAt, List.filterMap_nil]
        refine wpQuiet_nil ?_
        refine all_two ?_ ?_
        · intro K hK
          refine loud_op rfl rfl ?_
          refine wp_make (.tmp 25) (.tmp 25) 22 rfl w.heap.size 3 i0 (.int .i64 0) 1 Tryz.underlying22 hi hz0 hz1 .i64 .i64 _ _ N rfl rfl rfl rfl hb hb2 S.out.bel.size ?_
          intro v3 hown hgr
          have hbq : Below v2.heap.size v2 v3 := ⟨hgr.os, hgr.tape, hgr.output, hgr.size, fun k hk => hgr.block k hk (by simp)⟩
          have S := Lib.hid (S.out.made' hgr hown)
          rw [madeI'] at S
          have HB := Lib.hid (bto HB.out hbq)
          refine hK _ _ HB.out ?_
          clear hK K hown hgr hbq
          refine treeB_node ?_
          simp only [opsAt, List.filterMap_nil]
          refine wpQuiet_nil ?_
          refine all_one ?_
          · intro K hK
            refine loud_op rfl rfl ?_
            go_simp
            have hbq := (Below.refl v3.heap.size v3).alloc (Nat.le_refl _) (.cells #[.slice none 0 0] 22)
            have S := Lib.hid (S.out.fix.alloc [.slice none 0 0] 22)
            have HL4 := Lib.hid HB.out.size
            obtain ⟨v4, hwd⟩ : ∃ x, v3.alloc (.cells #[.slice none 0 0] 22) = x := ⟨_, rfl⟩
            have S := Lib.hid (show St w v4 (v3.heap.size + 1) _ from by rw [← hwd]; exact S.out)
            rw [hwd] at hbq ⊢
            have S := Lib.hid S.out.fix
            have HB := Lib.hid (bto HB.out hbq)
            refine hK _ _ HB.out ?_
            clear hK K hbq hwd
            refine treeB_node ?_
            simp only [opsAt, List.filterMap_nil]
            refine wpQuiet_nil ?_
            refine all_one ?_
            · intro K hK
              refine loud_op rfl rfl ?_
              have x0 := S.out.get 0 0 rfl rfl
              have z0 := S.out.free 0 0 rfl
              go_simp
              have S := Lib.hid ((S.out.set 0 0 (.slice (some ⟨v2.heap.size, 0, none⟩) N N) rfl).fix)
              have HB := Lib.hid (HB.out.setCell (p := ⟨v3.heap.size, 0, none⟩) HL4.out (.slice (some ⟨v2.heap.size, 0, none⟩) N N))
              refine hK _ _ HB.out ?_
              clear hK K x0 z0
              obtain ⟨v5, hwd⟩ : ∃ x, v4.setCell ⟨v3.heap.size, 0, none⟩ (.slice (some ⟨v2.heap.size, 0, none⟩) N N) = x := ⟨_, rfl⟩
              rw [hwd] at S HB ⊢
              clear hwd
              refine treeB_node ?_
              simp only [opsAt, List.filterMap_nil]
              refine wpQuiet_nil ?_
              refine all_one ?_
              · intro K hK
                refine loud_op rfl rfl ?_
                have x0 := S.out.get 2 0 rfl rfl
                have z0 := S.out.free 2 0 rfl
                go_simp
                have S := Lib.hid ((S.out.set 2 0 (.slice (some ⟨v0.heap.size, 0, none⟩) N N) rfl).fix)
                have HB := Lib.hid (HB.out.setCell (p := ⟨v1.heap.size, 0, none⟩) HL5.out (.slice (some ⟨v0.heap.size, 0, none⟩) N N))
                refine hK _ _ HB.out ?_
                clear hK K x0 z0
                obtain ⟨v6, hwd⟩ : ∃ x, v5.setCell ⟨v1.heap.size, 0, none⟩ (.slice (some ⟨v0.heap.size, 0, none⟩) N N) = x := ⟨_, rfl⟩
                rw [hwd] at S HB ⊢
                clear hwd
                refine treeB_last ?_
                simp only [opsAt, List.filterMap_nil]
                refine wpQuiet_nil ?_
                refine hKQ _ _ ⟨rfl, v3.heap.size, v1.heap.size, v2.heap.size, v0.heap.size, ?_, S.out.perm (List.Perm.cons _ ((List.perm_middle (l₁ := [_]) (l₂ := [_])).trans (List.Perm.cons _ (List.Perm.cons _ (List.Perm.cons _ (List.Perm.refl _))))))⟩
                kernel_rfl
        · intro K hK
          refine loud_op rfl rfl ?_
          go_simp
          have hbq := (Below.refl v2.heap.size v2).alloc (Nat.le_refl _) (.cells #[.slice none 0 0] 22)
          have S := Lib.hid (S.out.fix.alloc [.slice none 0 0] 22)
          have HL4 := Lib.hid HB.out.size
          obtain ⟨v3, hwd⟩ : ∃ x, v2.alloc (.cells #[.slice none 0 0] 22) = x := ⟨_, rfl⟩
          have S := Lib.hid (show St w v3 (v2.heap.size + 1) _ from by rw [← hwd]; exact S.out)
          rw [hwd] at hbq ⊢
          have S := Lib.hid S.out.fix
          have HB := Lib.hid (bto HB.out hbq)
          refine hK _ _ HB.out ?_
          clear hK K hbq hwd
          refine treeB_node ?_
          simp only [opsAt, List.filterMap_nil]
          refine wpQuiet_nil ?_
          refine all_one ?_
          · intro K hK
            refine loud_op rfl rfl ?_
            refine wp_make (.tmp 25) (.tmp 25) 22 rfl w.heap.size 3 i0 (.int .i64 0) 1 Tryz.underlying22 hi hz0 hz1 .i64 .i64 _ _ N rfl rfl rfl rfl hb hb2 S.out.bel.size ?_
            intro v4 hown hgr
            have hbq : Below v3.heap.size v3 v4 := ⟨hgr.os, hgr.tape, hgr.output, hgr.size, fun k hk => hgr.block k hk (by simp)⟩
            have S := Lib.hid (S.out.made' hgr hown)
            rw [madeI'] at S
            have HB := Lib.hid (bto HB.out hbq)
            refine hK _ _ HB.out ?_
            clear hK K hown hgr hbq
            refine treeB_node ?_
            simp only [opsAt, List.filterMap_nil]
            refine wpQuiet_nil ?_
            refine all_one ?_
            · intro K hK
              refine loud_op rfl rfl ?_
              have x0 := S.out.get 1 0 rfl rfl
              have z0 := S.out.free 1 0 rfl
              go_simp
              have S := Lib.hid ((S.out.set 1 0 (.slice (some ⟨v3.heap.size, 0, none⟩) N N) rfl).fix)
              have HB := Lib.hid (HB.out.setCell (p := ⟨v2.heap.size, 0, none⟩) HL4.out (.slice (some ⟨v3.heap.size, 0, none⟩) N N))
              refine hK _ _ HB.out ?_
              clear hK K x0 z0
              obtain ⟨v5, hwd⟩ : ∃ x, v4.setCell ⟨v2.heap.size, 0, none⟩ (.slice (some ⟨v3.heap.size, 0, none⟩) N N) = x := ⟨_, rfl⟩
              rw [hwd] at S HB ⊢
              clear hwd
              refine treeB_node ?_
              simp only [opsAt, List.filterMap_nil]
              refine wpQuiet_nil ?_
              refine all_one ?_
              · intro K hK
                refine loud_op rfl rfl ?_
                have x0 := S.out.get 2 0 rfl rfl
                have z0 := S.out.free 2 0 rfl
                go_simp
                have S := Lib.hid ((S.out.set 2 0 (.slice (some ⟨v0.heap.size, 0, none⟩) N N) rfl).fix)
                have HB := Lib.hid (HB.out.setCell (p := ⟨v1.heap.size, 0, none⟩) HL5.out (.slice (some ⟨v0.heap.size, 0, none⟩) N N))
                refine hK _ _ HB.out ?_
                clear hK K x0 z0
                obtain ⟨v6, hwd⟩ : ∃ x, v5.setCell ⟨v1.heap.size, 0, none⟩ (.slice (some ⟨v0.heap.size, 0, none⟩) N N) = x := ⟨_, rfl⟩
                rw [hwd] at S HB ⊢
                clear hwd
                refine treeB_last ?_
                simp only [opsAt, List.filterMap_nil]
                refine wpQuiet_nil ?_
                refine hKQ _ _ ⟨rfl, v2.heap.size, v1.heap.size, v3.heap.size, v0.heap.size, ?_, S.out.perm ((List.perm_middle (l₁ := [_]) (l₂ := [_, _])).trans (List.Perm.cons _ ((List.perm_middle (l₁ := [_]) (l₂ := [_])).trans (List.Perm.cons _ (List.Perm.cons _ (List.Perm.cons _ (List.Perm.refl _)))))))⟩
                kernel_rfl
    · intro K hK
      refine loud_op rfl rfl ?_
      go_simp
      have hbq := (Below.refl v0.heap.size v0).alloc (Nat.le_refl _) (.cells #[.slice none 0 0] 22)
      have S := Lib.hid (S.out.fix.alloc [.slice none 0 0] 22)
      have HL4 := Lib.hid HB.out.size
      obtain ⟨v1, hwd⟩ : ∃ x, v0.alloc (.cells #[.slice none 0 0] 22) = x := ⟨_, rfl⟩
      have S := Lib.hid (show St w v1 (v0.heap.size + 1) _ from by rw [← hwd]; exact S.out)
      rw [hwd] at hbq ⊢
      have S := Lib.hid S.out.fix
      have HB := Lib.hid (bto HB.out hbq)
      refine hK _ _ HB.out ?_
      clear hK K hbq hwd
      refine treeB_node ?_
      simp only [opsAt, List.filterMap_nil]
      refine wpQuiet_nil ?_
      refine all_three ?_ ?_ ?_
      · intro K hK
        refine loud_op rfl rfl ?_
        refine wp_make (.tmp 25) (.tmp 25) 22 rfl w.heap.size 3 i0 (.int .i64 0) 1 Tryz.underlying22 hi hz0 hz1 .i64 .i64 _ _ N rfl rfl rfl rfl hb hb2 S.out.bel.size ?_
        intro v2 hown hgr
        have hbq : Below v1.heap.size v1 v2 := ⟨hgr.os, hgr.tape, hgr.output, hgr.size, fun k hk => hgr.block k hk (by simp)⟩
        have S := Lib.hid (S.out.made' hgr hown)
        rw [madeI'] at S
        have HB := Lib.hid (bto HB.out hbq)
        refine hK _ _ HB.out ?_
        clear hK K hown hgr hbq
        refine treeB_node ?_
        simp only [opsAt, List.filterMap_nil]
        refine wpQuiet_nil ?_
        refine all_two ?_ ?_
        · intro K hK
          refine loud_op rfl rfl ?_
          refine wp_make (.tmp 27) (.tmp 27) 120 rfl w.heap.size 124 j0 (.agg #[.int .i64 0, .int .i64 0, .int .i64 0, .int .i64 0, .int .i64 0]) 5 Tryz.underlying120 ki kz0 kz1 .i64 .i64 _ _ N rfl rfl rfl rfl kb hb2 S.out.bel.size ?_
          intro v3 hown hgr
          have hbq : Below v2.heap.size v2 v3 := ⟨hgr.os, hgr.tape, hgr.output, hgr.size, fun k hk => hgr.block k hk (by simp)⟩
          have S := Lib.hid (S.out.made' hgr hown)
          rw [show (Value.agg #[Value.int IntKind.i64 0, .int .i64 0, .int .i64 0, .int .i64 0, .int .i64 0]).cells = #[Value.int IntKind.i64 0, .int .i64 0, .int .i64 0, .int .i64 0, .int .i64 0] from rfl, madeA] at S
          have HB := Lib.hid (bto HB.out hbq)
          refine hK _ _ HB.out ?_
          clear hK K hown hgr hbq
          refine treeB_node ?_
          simp only [opsAt, List.filterMap_nil]
          refine wpQuiet_nil ?_
          refine all_one ?_
          · intro K hK
            refine loud_op rfl rfl ?_
            go_simp
            have hbq := (Below.refl v3.heap.size v3).alloc (Nat.le_refl _) (.cells #[.slice none 0 0] 120)
            have S := Lib.hid (S.out.fix.alloc [.slice none 0 0] 120)
            have HL5 := Lib.hid HB.out.size
            obtain ⟨v4, hwd⟩ : ∃ x, v3.alloc (.cells #[.slice none 0 0] 120) = x := ⟨_, rfl⟩
            have S := Lib.hid (show St w v4 (v3.heap.size + 1) _ from by rw [← hwd]; exact S.out)
            rw [hwd] at hbq ⊢
            have S := Lib.hid S.out.fix
            have HB := Lib.hid (bto HB.out hbq)
            refine hK _ _ HB.out ?_
            clear hK K hbq hwd
            refine treeB_node ?_
            simp only [opsAt, List.filterMap_nil]
            refine wpQuiet_nil ?_
            refine all_one ?_
            · intro K hK
              refine loud_op rfl rfl ?_
              have x0 := S.out.get 3 0 rfl rfl
              have z0 := S.out.free 3 0 rfl
              go_simp
              have S := Lib.hid ((S.out.set 3 0 (.slice (some ⟨v1.heap.size, 0, none⟩) N N) rfl).fix)
              have HB := Lib.hid (HB.out.setCell (p := ⟨v0.heap.size, 0, none⟩) HL4.out (.slice (some ⟨v1.heap.size, 0, none⟩) N N))
              refine hK _ _ HB.out ?_
              clear hK K x0 z0
              obtain ⟨v5, hwd⟩ : ∃ x, v4.setCell ⟨v0.heap.size, 0, none⟩ (.slice (some ⟨v1.heap.size, 0, none⟩) N N) = x := ⟨_, rfl⟩
              rw [hwd] at S HB ⊢
              clear hwd
              refine treeB_node ?_
              simp only [opsAt, List.filterMap_nil]
              refine wpQuiet_nil ?_
              refine all_one ?_
              · intro K hK
                refine loud_op rfl rfl ?_
                have x0 := S.out.get 0 0 rfl rfl
                have z0 := S.out.free 0 0 rfl
                go_simp
                have S := Lib.hid ((S.out.set 0 0 (.slice (some ⟨v2.heap.size, 0, none⟩) N N) rfl).fix)
                have HB := Lib.hid (HB.out.setCell (p := ⟨v3.heap.size, 0, none⟩) HL5.out (.slice (some ⟨v2.heap.size, 0, none⟩) N N))
                refine hK _ _ HB.out ?_
                clear hK K x0 z0
                obtain ⟨v6, hwd⟩ : ∃ x, v5.setCell ⟨v3.heap.size, 0, none⟩ (.slice (some ⟨v2.heap.size, 0, none⟩) N N) = x := ⟨_, rfl⟩
                rw [hwd] at S HB ⊢
                clear hwd
                refine treeB_last ?_
                simp only [opsAt, List.filterMap_nil]
                refine wpQuiet_nil ?_
                refine hKQ _ _ ⟨rfl, v0.heap.size, v3.heap.size, v1.heap.size, v2.heap.size, ?_, S.out.perm ((List.perm_middle (l₁ := [_, _, _]) (l₂ := [])).trans (List.Perm.cons _ (List.Perm.cons _ ((List.perm_middle (l₁ := [_]) (l₂ := [])).trans (List.Perm.cons _ (List.Perm.cons _ (List.Perm.refl _)))))))⟩
                kernel_rfl
        · intro K hK
          refine loud_op rfl rfl ?_
          go_simp
          have hbq := (Below.refl v2.heap.size v2).alloc (Nat.le_refl _) (.cells #[.slice none 0 0] 120)
          have S := Lib.hid (S.out.fix.alloc [.slice none 0 0] 120)
          have HL5 := Lib.hid HB.out.size
          obtain ⟨v3, hwd⟩ : ∃ x, v2.alloc (.cells #[.slice none 0 0] 120) = x := ⟨_, rfl⟩
          have S := Lib.hid (show St w v3 (v2.heap.size + 1) _ from by rw [← hwd]; exact S.out)
          rw [hwd] at hbq ⊢
          have S := Lib.hid S.out.fix
          have HB := Lib.hid (bto HB.out hbq)
          refine hK _ _ HB.out ?_
          clear hK K hbq hwd
          refine treeB_node ?_
          simp only [opsAt, List.filterMap_nil]
          refine wpQuiet_nil ?_
          refine all_two ?_ ?_
          · intro K hK
            refine loud_op rfl rfl ?_
            refine wp_make (.tmp 27) (.tmp 27) 120 rfl w.heap.size 124 j0 (.agg #[.int .i64 0, .int .i64 0, .int .i64 0, .int .i64 0, .int .i64 0]) 5 Tryz.underlying120 ki kz0 kz1 .i64 .i64 _ _ N rfl rfl rfl rfl kb hb2 S.out.bel.size ?_
            intro v4 hown hgr
            have hbq : Below v3.heap.size v3 v4 := ⟨hgr.os, hgr.tape, hgr.output, hgr.size, fun k hk => hgr.block k hk (by simp)⟩
            have S := Lib.hid (S.out.made' hgr hown)
            rw [show (Value.agg #[Value.int IntKind.i64 0, .int .i64 0, .int .i64 0, .int .i64 0, .int .i64 0]).cells = #[Value.int IntKind.i64 0, .int .i64 0, .int .i64 0, .int .i64 0, .int .i64 0] from rfl, madeA] at S
            have HB := Lib.hid (bto HB.out hbq)
            refine hK _ _ HB.out ?_
            clear hK K hown hgr hbq
            refine treeB_node ?_
            simp only [opsAt, List.filterMap_nil]
            refine wpQuiet_nil ?_
            refine all_one ?_
            · intro K hK
              refine loud_op rfl rfl ?_
              have x0 := S.out.get 3 0 rfl rfl
              have z0 := S.out.free 3 0 rfl
              go_simp
              have S := Lib.hid ((S.out.set 3 0 (.slice (some ⟨v1.heap.size, 0, none⟩) N N) rfl).fix)
              have HB := Lib.hid (HB.out.setCell (p := ⟨v0.heap.size, 0, none⟩) HL4.out (.slice (some ⟨v1.heap.size, 0, none⟩) N N))
              refine hK _ _ HB.out ?_
              clear hK K x0 z0
              obtain ⟨v5, hwd⟩ : ∃ x, v4.setCell ⟨v0.heap.size, 0, none⟩ (.slice (some ⟨v1.heap.size, 0, none⟩) N N) = x := ⟨_, rfl⟩
              rw [hwd] at S HB ⊢
              clear hwd
              refine treeB_node ?_
              simp only [opsAt, List.filterMap_nil]
              refine wpQuiet_nil ?_
              refine all_one ?_
              · intro K hK
                refine loud_op rfl rfl ?_
                have x0 := S.out.get 1 0 rfl rfl
                have z0 := S.out.free 1 0 rfl
                go_simp
                have S := Lib.hid ((S.out.set 1 0 (.slice (some ⟨v3.heap.size, 0, none⟩) N N) rfl).fix)
                have HB := Lib.hid (HB.out.setCell (p := ⟨v2.heap.size, 0, none⟩) HL5.out (.slice (some ⟨v3.heap.size, 0, none⟩) N N))
                refine hK _ _ HB.out ?_
                clear hK K x0 z0
                obtain ⟨v6, hwd⟩ : ∃ x, v5.setCell ⟨v2.heap.size, 0, none⟩ (.slice (some ⟨v3.heap.size, 0, none⟩) N N) = x := ⟨_, rfl⟩
                rw [hwd] at S HB ⊢
                clear hwd
                refine treeB_last ?_
                simp only [opsAt, List.filterMap_nil]
                refine wpQuiet_nil ?_
                refine hKQ _ _ ⟨rfl, v0.heap.size, v2.heap.size, v1.heap.size, v3.heap.size, ?_, S.out.perm ((List.perm_middle (l₁ := [_, _, _]) (l₂ := [])).trans (List.Perm.cons _ ((List.perm_middle (l₁ := [_]) (l₂ := [_])).trans (List.Perm.cons _ ((List.perm_middle (l₁ := [_]) (l₂ := [])).trans (List.Perm.cons _ (List.Perm.cons _ (List.Perm.refl _))))))))⟩
                kernel_rfl
          · intro K hK
            refine loud_op rfl rfl ?_
            have x0 := S.out.get 2 0 rfl rfl
            have z0 := S.out.free 2 0 rfl
            go_simp
            have S := Lib.hid ((S.out.set 2 0 (.slice (some ⟨v1.heap.size, 0, none⟩) N N) rfl).fix)
            have HB := Lib.hid (HB.out.setCell (p := ⟨v0.heap.size, 0, none⟩) HL4.out (.slice (some ⟨v1.heap.size, 0, none⟩) N N))
            refine hK _ _ HB.out ?_
            clear hK K x0 z0
            obtain ⟨v4, hwd⟩ : ∃ x, v3.setCell ⟨v0.heap.size, 0, none⟩ (.slice (some ⟨v1.heap.size, 0, none⟩) N N) = x := ⟨_, rfl⟩
            rw [hwd] at S HB ⊢
            clear hwd
            refine treeB_node ?_
            simp only [opsAt, List.filterMap_nil]
            refine wpQuiet_nil ?_
            refine all_one ?_
            · intro K hK
              refine loud_op rfl rfl ?_
              refine wp_make (.tmp 27) (.tmp 27) 120 rfl w.heap.size 124 j0 (.agg #[.int .i64 0, .int .i64 0, .int .i64 0, .int .i64 0, .int .i64 0]) 5 Tryz.underlying120 ki kz0 kz1 .i64 .i64 _ _ N rfl rfl rfl rfl kb hb2 S.out.bel.size ?_
              intro v5 hown hgr
              have hbq : Below v4.heap.size v4 v5 := ⟨hgr.os, hgr.tape, hgr.output, hgr.size, fun k hk => hgr.block k hk (by simp)⟩
              have S := Lib.hid (S.out.made' hgr hown)
              rw [show (Value.agg #[Value.int IntKind.i64 0, .int .i64 0, .int .i64 0, .int .i64 0, .int .i64 0]).cells = #[Value.int IntKind.i64 0, .int .i64 0, .int .i64 0, .int .i64 0, .int .i64 0] from rfl, madeA] at S
              have HB := Lib.hid (bto HB.out hbq)
              refine hK _ _ HB.out ?_
              clear hK K hown hgr hbq
              refine treeB_node ?_
              simp only [opsAt, List.filterMap_nil]
              refine wpQuiet_nil ?_
              refine all_one ?_
              · intro K hK
                refine loud_op rfl rfl ?_
                have x0 := S.out.get 1 0 rfl rfl
                have z0 := S.out.free 1 0 rfl
                go_simp
                have S := Lib.hid ((S.out.set 1 0 (.slice (some ⟨v4.heap.size, 0, none⟩) N N) rfl).fix)
                have HB := Lib.hid (HB.out.setCell (p := ⟨v2.heap.size, 0, none⟩) HL5.out (.slice (some ⟨v4.heap.size, 0, none⟩) N N))
                refine hK _ _ HB.out ?_
                clear hK K x0 z0
                obtain ⟨v6, hwd⟩ : ∃ x, v5.setCell ⟨v2.heap.size, 0, none⟩ (.slice (some ⟨v4.heap.size, 0, none⟩) N N) = x := ⟨_, rfl⟩
                rw [hwd] at S HB ⊢
                clear hwd
                refine treeB_last ?_
                simp only [opsAt, List.filterMap_nil]
                refine wpQuiet_nil ?_
                refine hKQ _ _ ⟨rfl, v0.heap.size, v2.heap.size, v1.heap.size, v4.heap.size, ?_, S.out.perm ((List.perm_middle (l₁ := [_, _, _]) (l₂ := [])).trans (List.Perm.cons _ ((List.perm_middle (l₁ := [_]) (l₂ := [_])).trans (List.Perm.cons _ ((List.perm_middle (l₁ := [_]) (l₂ := [])).trans (List.Perm.cons _ (List.Perm.cons _ (List.Perm.refl _))))))))⟩
                kernel_rfl
      · intro K hK
        refine loud_op rfl rfl ?_
        refine wp_make (.tmp 27) (.tmp 27) 120 rfl w.heap.size 124 j0 (.agg #[.int .i64 0, .int .i64 0, .int .i64 0, .int .i64 0, .int .i64 0]) 5 Tryz.underlying120 ki kz0 kz1 .i64 .i64 _ _ N rfl rfl rfl rfl kb hb2 S.out.bel.size ?_
        intro v2 hown hgr
        have hbq : Below v1.heap.size v1 v2 := ⟨hgr.os, hgr.tape, hgr.output, hgr.size, fun k hk => hgr.block k hk (by simp)⟩
        have S := Lib.hid (S.out.made' hgr hown)
        rw [show (Value.agg #[Value.int IntKind.i64 0, .int .i64 0, .int .i64 0, .int .i64 0, .int .i64 0]).cells = #[Value.int IntKind.i64 0, .int .i64 0, .int .i64 0, .int .i64 0, .int .i64 0] from rfl, madeA] at S
        have HB := Lib.hid (bto HB.out hbq)
        refine hK _ _ HB.out ?_
        clear hK K hown hgr hbq
        refine treeB_node ?_
        simp only [opsAt, List.filterMap_nil]
        refine wpQuiet_nil ?_
        refine all_two ?_ ?_
        · intro K hK
          refine loud_op rfl rfl ?_
          refine wp_make (.tmp 25) (.tmp 25) 22 rfl w.heap.size 3 i0 (.int .i64 0) 1 Tryz.underlying22 hi hz0 hz1 .i64 .i64 _ _ N rfl rfl rfl rfl hb hb2 S.out.bel.size ?_
          intro v3 hown hgr
          have hbq : Below v2.heap.size v2 v3 := ⟨hgr.os, hgr.tape, hgr.output, hgr.size, fun k hk => hgr.block k hk (by simp)⟩
          have S := Lib.hid (S.out.made' hgr hown)
          rw [madeI'] at S
          have HB := Lib.hid (bto HB.out hbq)
          refine hK _ _ HB.out ?_
          clear hK K hown hgr hbq
          refine treeB_node ?_
          simp only [opsAt, List.filterMap_nil]
          refine wpQuiet_nil ?_
          refine all_one ?_
          · intro K hK
            refine loud_op rfl rfl ?_
            go_simp
            have hbq := (Below.refl v3.heap.size v3).alloc (Nat.le_refl _) (.cells #[.slice none 0 0] 120)
            have S := Lib.hid (S.out.fix.alloc [.slice none 0 0] 120)
            have HL5 := Lib.hid HB.out.size
            obtain ⟨v4, hwd⟩ : ∃ x, v3.alloc (.cells #[.slice none 0 0] 120) = x := ⟨_, rfl⟩
            have S := Lib.hid (show St w v4 (v3.heap.size + 1) _ from by rw [← hwd]; exact S.out)
            rw [hwd] at hbq ⊢
            have S := Lib.hid S.out.fix
            have HB := Lib.hid (bto HB.out hbq)
            refine hK _ _ HB.out ?_
            clear hK K hbq hwd
            refine treeB_node ?_
            simp only [opsAt, List.filterMap_nil]
            refine wpQuiet_nil ?_
            refine all_one ?_
            · intro K hK
              refine loud_op rfl rfl ?_
              have x0 := S.out.get 3 0 rfl rfl
              have z0 := S.out.free 3 0 rfl
              go_simp
              have S := Lib.hid ((S.out.set 3 0 (.slice (some ⟨v2.heap.size, 0, none⟩) N N) rfl).fix)
              have HB := Lib.hid (HB.out.setCell (p := ⟨v0.heap.size, 0, none⟩) HL4.out (.slice (some ⟨v2.heap.size, 0, none⟩) N N))
              refine hK _ _ HB.out ?_
              clear hK K x0 z0
              obtain ⟨v5, hwd⟩ : ∃ x, v4.setCell ⟨v0.heap.size, 0, none⟩ (.slice (some ⟨v2.heap.size, 0, none⟩) N N) = x := ⟨_, rfl⟩
              rw [hwd] at S HB ⊢
              clear hwd
              refine treeB_node ?_
              simp only [opsAt, List.filterMap_nil]
              refine wpQuiet_nil ?_
              refine all_one ?_
              · intro K hK
                refine loud_op rfl rfl ?_
                have x0 := S.out.get 0 0 rfl rfl
                have z0 := S.out.free 0 0 rfl
                go_simp
                have S := Lib.hid ((S.out.set 0 0 (.slice (some ⟨v1.heap.size, 0, none⟩) N N) rfl).fix)
                have HB := Lib.hid (HB.out.setCell (p := ⟨v3.heap.size, 0, none⟩) HL5.out (.slice (some ⟨v1.heap.size, 0, none⟩) N N))
                refine hK _ _ HB.out ?_
                clear hK K x0 z0
                obtain ⟨v6, hwd⟩ : ∃ x, v5.setCell ⟨v3.heap.size, 0, none⟩ (.slice (some ⟨v1.heap.size, 0, none⟩) N N) = x := ⟨_, rfl⟩
                rw [hwd] at S HB ⊢
                clear hwd
                refine treeB_last ?_
                simp only [opsAt, List.filterMap_nil]
                refine wpQuiet_nil ?_
                refine hKQ _ _ ⟨rfl, v0.heap.size, v3.heap.size, v2.heap.size, v1.heap.size, ?_, S.out.perm ((List.perm_middle (l₁ := [_, _, _]) (l₂ := [])).trans (List.Perm.cons _ (List.Perm.cons _ (List.Perm.cons _ (List.Perm.cons _ (List.Perm.refl _))))))⟩
                kernel_rfl
        · intro K hK
          refine loud_op rfl rfl ?_
          go_simp
          have hbq := (Below.refl v2.heap.size v2).alloc (Nat.le_refl _) (.cells #[.slice none 0 0] 120)
          have S := Lib.hid (S.out.fix.alloc [.slice none 0 0] 120)
          have HL5 := Lib.hid HB.out.size
          obtain ⟨v3, hwd⟩ : ∃ x, v2.alloc (.cells #[.slice none 0 0] 120) = x := ⟨_, rfl⟩
          have S := Lib.hid (show St w v3 (v2.heap.size + 1) _ from by rw [← hwd]; exact S.out)
          rw [hwd] at hbq ⊢
          have S := Lib.hid S.out.fix
          have HB := Lib.hid (bto HB.out hbq)
          refine hK _ _ HB.out ?_
          clear hK K hbq hwd
          refine treeB_node ?_
          simp only [opsAt, List.filterMap_nil]
          refine wpQuiet_nil ?_
          refine all_one ?_
          · intro K hK
            refine loud_op rfl rfl ?_
            refine wp_make (.tmp 25) (.tmp 25) 22 rfl w.heap.size 3 i0 (.int .i64 0) 1 Tryz.underlying22 hi hz0 hz1 .i64 .i64 _ _ N rfl rfl rfl rfl hb hb2 S.out.bel.size ?_
            intro v4 hown hgr
            have hbq : Below v3.heap.size v3 v4 := ⟨hgr.os, hgr.tape, hgr.output, hgr.size, fun k hk => hgr.block k hk (by simp)⟩
            have S := Lib.hid (S.out.made' hgr hown)
            rw [madeI'] at S
            have HB := Lib.hid (bto HB.out hbq)
            refine hK _ _ HB.out ?_
            clear hK K hown hgr hbq
            refine treeB_node ?_
            simp only [opsAt, List.filterMap_nil]
            refine wpQuiet_nil ?_
            refine all_one ?_
            · intro K hK
              refine loud_op rfl rfl ?_
              have x0 := S.out.get 3 0 rfl rfl
              have z0 := S.out.free 3 0 rfl
              go_simp
              have S := Lib.hid ((S.out.set 3 0 (.slice (some ⟨v3.heap.size, 0, none⟩) N N) rfl).fix)
              have HB := Lib.hid (HB.out.setCell (p := ⟨v0.heap.size, 0, none⟩) HL4.out (.slice (some ⟨v3.heap.size, 0, none⟩) N N))
              refine hK _ _ HB.out ?_
              clear hK K x0 z0
              obtain ⟨v5, hwd⟩ : ∃ x, v4.setCell ⟨v0.heap.size, 0, none⟩ (.slice (some ⟨v3.heap.size, 0, none⟩) N N) = x := ⟨_, rfl⟩
              rw [hwd] at S HB ⊢
              clear hwd
              refine treeB_node ?_
              simp only [opsAt, List.filterMap_nil]
              refine wpQuiet_nil ?_
              refine all_one ?_
              · intro K hK
                refine loud_op rfl rfl ?_
                have x0 := S.out.get 1 0 rfl rfl
                have z0 := S.out.free 1 0 rfl
                go_simp
                have S := Lib.hid ((S.out.set 1 0 (.slice (some ⟨v1.heap.size, 0, none⟩) N N) rfl).fix)
                have HB := Lib.hid (HB.out.setCell (p := ⟨v2.heap.size, 0, none⟩) HL5.out (.slice (some ⟨v1.heap.size, 0, none⟩) N N))
                refine hK _ _ HB.out ?_
                clear hK K x0 z0
                obtain ⟨v6, hwd⟩ : ∃ x, v5.setCell ⟨v2.heap.size, 0, none⟩ (.slice (some ⟨v1.heap.size, 0, none⟩) N N) = x := ⟨_, rfl⟩
                rw [hwd] at S HB ⊢
                clear hwd
                refine treeB_last ?_
                simp only [opsAt, List.filterMap_nil]
                refine wpQuiet_nil ?_
                refine hKQ _ _ ⟨rfl, v0.heap.size, v2.heap.size, v3.heap.size, v1.heap.size, ?_, S.out.perm ((List.perm_middle (l₁ := [_, _, _]) (l₂ := [])).trans (List.Perm.cons _ ((List.perm_middle (l₁ := [_]) (l₂ := [_])).trans (List.Perm.cons _ (List.Perm.cons _ (List.Perm.cons _ (List.Perm.refl _)))))))⟩
                kernel_rfl
      · intro K hK
        refine loud_op rfl rfl ?_
        go_simp
        have hbq := (Below.refl v1.heap.size v1).alloc (Nat.le_refl _) (.cells #[.slice none 0 0] 120)
        have S := Lib.hid (S.out.fix.alloc [.slice none 0 0] 120)
        have HL5 := Lib.hid HB.out.size
        obtain ⟨v2, hwd⟩ : ∃ x, v1.alloc (.cells #[.slice none 0 0] 120) = x := ⟨_, rfl⟩
        have S := Lib.hid (show St w v2 (v1.heap.size + 1) _ from by rw [← hwd]; exact S.out)
        rw [hwd] at hbq ⊢
        have S := Lib.hid S.out.fix
        have HB := Lib.hid (bto HB.out hbq)
        refine hK _ _ HB.out ?_
        clear hK K hbq hwd
        refine treeB_node ?_
        simp only [opsAt, List.filterMap_nil]
        refine wpQuiet_nil ?_
        refine all_two ?_ ?_
        · intro K hK
          refine loud_op rfl rfl ?_
          refine wp_make (.tmp 25) (.tmp 25) 22 rfl w.heap.size 3 i0 (.int .i64 0) 1 Tryz.underlying22 hi hz0 hz1 .i64 .i64 _ _ N rfl rfl rfl rfl hb hb2 S.out.bel.size ?_
          intro v3 hown hgr
          have hbq : Below v2.heap.size v2 v3 := ⟨hgr.os, hgr.tape, hgr.output, hgr.size, fun k hk => hgr.block k hk (by simp)⟩
          have S := Lib.hid (S.out.made' hgr hown)
          rw [madeI'] at S
          have HB := Lib.hid (bto HB.out hbq)
          refine hK _ _ HB.out ?_
          clear hK K hown hgr hbq
          refine treeB_node ?_
          simp only [opsAt, List.filterMap_nil]
          refine wpQuiet_nil ?_
          refine all_two ?_ ?_
          · intro K hK
            refine loud_op rfl rfl ?_
            refine wp_make (.tmp 27) (.tmp 27) 120 rfl w.heap.size 124 j0 (.agg #[.int .i64 0, .int .i64 0, .int .i64 0, .int .i64 0, .int .i64 0]) 5 Tryz.underlying120 ki kz0 kz1 .i64 .i64 _ _ N rfl rfl rfl rfl kb hb2 S.out.bel.size ?_
            intro v4 hown hgr
            have hbq : Below v3.heap.size v3 v4 := ⟨hgr.os, hgr.tape, hgr.output, hgr.size, fun k hk => hgr.block k hk (by simp)⟩
            have S := Lib.hid (S.out.made' hgr hown)
            rw [show (Value.agg #[Value.int IntKind.i64 0, .int .i64 0, .int .i64 0, .int .i64 0, .int .i64 0]).cells = #[Value.int IntKind.i64 0, .int .i64 0, .int .i64 0, .int .i64 0, .int .i64 0] from rfl, madeA] at S
            have HB := Lib.hid (bto HB.out hbq)
            refine hK _ _ HB.out ?_
            clear hK K hown hgr hbq
            refine treeB_node ?_
            simp only [opsAt, List.filterMap_nil]
            refine wpQuiet_nil ?_
            refine all_one ?_
            · intro K hK
              refine loud_op rfl rfl ?_
              have x0 := S.out.get 3 0 rfl rfl
              have z0 := S.out.free 3 0 rfl
              go_simp
              have S := Lib.hid ((S.out.set 3 0 (.slice (some ⟨v2.heap.size, 0, none⟩) N N) rfl).fix)
              have HB := Lib.hid (HB.out.setCell (p := ⟨v0.heap.size, 0, none⟩) HL4.out (.slice (some ⟨v2.heap.size, 0, none⟩) N N))
              refine hK _ _ HB.out ?_
              clear hK K x0 z0
              obtain ⟨v5, hwd⟩ : ∃ x, v4.setCell ⟨v0.heap.size, 0, none⟩ (.slice (some ⟨v2.heap.size, 0, none⟩) N N) = x := ⟨_, rfl⟩
              rw [hwd] at S HB ⊢
              clear hwd
              refine treeB_node ?_
              simp only [opsAt, List.filterMap_nil]
              refine wpQuiet_nil ?_
              refine all_one ?_
              · intro K hK
                refine loud_op rfl rfl ?_
                have x0 := S.out.get 2 0 rfl rfl
                have z0 := S.out.free 2 0 rfl
                go_simp
                have S := Lib.hid ((S.out.set 2 0 (.slice (some ⟨v3.heap.size, 0, none⟩) N N) rfl).fix)
                have HB := Lib.hid (HB.out.setCell (p := ⟨v1.heap.size, 0, none⟩) HL5.out (.slice (some ⟨v3.heap.size, 0, none⟩) N N))
                refine hK _ _ HB.out ?_
                clear hK K x0 z0
                obtain ⟨v6, hwd⟩ : ∃ x, v5.setCell ⟨v1.heap.size, 0, none⟩ (.slice (some ⟨v3.heap.size, 0, none⟩) N N) = x := ⟨_, rfl⟩
                rw [hwd] at S HB ⊢
                clear hwd
                refine treeB_last ?_
                simp only [opsAt, List.filterMap_nil]
                refine wpQuiet_nil ?_
                refine hKQ _ _ ⟨rfl, v0.heap.size, v1.heap.size, v2.heap.size, v3.heap.size, ?_, S.out.perm ((List.perm_middle (l₁ := [_, _, _]) (l₂ := [])).trans (List.Perm.cons _ ((List.perm_middle (l₁ := [_, _]) (l₂ := [])).trans (List.Perm.cons _ ((List.perm_middle (l₁ := [_]) (l₂ := [])).trans (List.Perm.cons _ (List.Perm.cons _ (List.Perm.refl _))))))))⟩
                kernel_rfl
          · intro K hK
            refine loud_op rfl rfl ?_
            have x0 := S.out.get 2 0 rfl rfl
            have z0 := S.out.free 2 0 rfl
            go_simp
            have S := Lib.hid ((S.out.set 2 0 (.slice (some ⟨v2.heap.size, 0, none⟩) N N) rfl).fix)
            have HB := Lib.hid (HB.out.setCell (p := ⟨v0.heap.size, 0, none⟩) HL4.out (.slice (some ⟨v2.heap.size, 0, none⟩) N N))
            refine hK _ _ HB.out ?_
            clear hK K x0 z0
            obtain ⟨v4, hwd⟩ : ∃ x, v3.setCell ⟨v0.heap.size, 0, none⟩ (.slice (some ⟨v2.heap.size, 0, none⟩) N N) = x := ⟨_, rfl⟩
            rw [hwd] at S HB ⊢
            clear hwd
            refine treeB_node ?_
            simp only [opsAt, List.filterMap_nil]
            refine wpQuiet_nil ?_
            refine all_one ?_
            · intro K hK
              refine loud_op rfl rfl ?_
              refine wp_make (.tmp 27) (.tmp 27) 120 rfl w.heap.size 124 j0 (.agg #[.int .i64 0, .int .i64 0, .int .i64 0, .int .i64 0, .int .i64 0]) 5 Tryz.underlying120 ki kz0 kz1 .i64 .i64 _ _ N rfl rfl rfl rfl kb hb2 S.out.bel.size ?_
              intro v5 hown hgr
              have hbq : Below v4.heap.size v4 v5 := ⟨hgr.os, hgr.tape, hgr.output, hgr.size, fun k hk => hgr.block k hk (by simp)⟩
              have S := Lib.hid (S.out.made' hgr hown)
              rw [show (Value.agg #[Value.int IntKind.i64 0, .int .i64 0, .int .i64 0, .int .i64 0, .int .i64 0]).cells = #[Value.int IntKind.i64 0, .int .i64 0, .int .i64 0, .int .i64 0, .int .i64 0] from rfl, madeA] at S
              have HB := Lib.hid (bto HB.out hbq)
              refine hK _ _ HB.out ?_
              clear hK K hown hgr hbq
              refine treeB_node ?_
              simp only [opsAt, List.filterMap_nil]
              refine wpQuiet_nil ?_
              refine all_one ?_
              · intro K hK
                refine loud_op rfl rfl ?_
                have x0 := S.out.get 2 0 rfl rfl
                have z0 := S.out.free 2 0 rfl
                go_simp
                have S := Lib.hid ((S.out.set 2 0 (.slice (some ⟨v4.heap.size, 0, none⟩) N N) rfl).fix)
                have HB := Lib.hid (HB.out.setCell (p := ⟨v1.heap.size, 0, none⟩) HL5.out (.slice (some ⟨v4.heap.size, 0, none⟩) N N))
                refine hK _ _ HB.out ?_
                clear hK K x0 z0
                obtain ⟨v6, hwd⟩ : ∃ x, v5.setCell ⟨v1.heap.size, 0, none⟩ (.slice (some ⟨v4.heap.size, 0, none⟩) N N) = x := ⟨_, rfl⟩
                rw [hwd] at S HB ⊢
                clear hwd
                refine treeB_last ?_
                simp only [opsAt, List.filterMap_nil]
                refine wpQuiet_nil ?_
                refine hKQ _ _ ⟨rfl, v0.heap.size, v1.heap.size, v2.heap.size, v4.heap.size, ?_, S.out.perm ((List.perm_middle (l₁ := [_, _, _]) (l₂ := [])).trans (List.Perm.cons _ ((List.perm_middle (l₁ := [_, _]) (l₂ := [])).trans (List.Perm.cons _ ((List.perm_middle (l₁ := [_]) (l₂ := [])).trans (List.Perm.cons _ (List.Perm.cons _ (List.Perm.refl _))))))))⟩
                kernel_rfl
        · intro K hK
          refine loud_op rfl rfl ?_
          refine wp_make (.tmp 27) (.tmp 27) 120 rfl w.heap.size 124 j0 (.agg #[.int .i64 0, .int .i64 0, .int .i64 0, .int .i64 0, .int .i64 0]) 5 Tryz.underlying120 ki kz0 kz1 .i64 .i64 _ _ N rfl rfl rfl rfl kb hb2 S.out.bel.size ?_
          intro v3 hown hgr
          have hbq : Below v2.heap.size v2 v3 := ⟨hgr.os, hgr.tape, hgr.output, hgr.size, fun k hk => hgr.block k hk (by simp)⟩
          have S := Lib.hid (S.out.made' hgr hown)
          rw [show (Value.agg #[Value.int IntKind.i64 0, .int .i64 0, .int .i64 0, .int .i64 0, .int .i64 0]).cells = #[Value.int IntKind.i64 0, .int .i64 0, .int .i64 0, .int .i64 0, .int .i64 0] from rfl, madeA] at S
          have HB := Lib.hid (bto HB.out hbq)
          refine hK _ _ HB.out ?_
          clear hK K hown hgr hbq
          refine treeB_node ?_
          simp only [opsAt, List.filterMap_nil]
          refine wpQuiet_nil ?_
          refine all_one ?_
          · intro K hK
            refine loud_op rfl rfl ?_
            refine wp_make (.tmp 25) (.tmp 25) 22 rfl w.heap.size 3 i0 (.int .i64 0) 1 Tryz.underlying22 hi hz0 hz1 .i64 .i64 _ _ N rfl rfl rfl rfl hb hb2 S.out.bel.size ?_
            intro v4 hown hgr
            have hbq : Below v3.heap.size v3 v4 := ⟨hgr.os, hgr.tape, hgr.output, hgr.size, fun k hk => hgr.block k hk (by simp)⟩
            have S := Lib.hid (S.out.made' hgr hown)
            rw [madeI'] at S
            have HB := Lib.hid (bto HB.out hbq)
            refine hK _ _ HB.out ?_
            clear hK K hown hgr hbq
            refine treeB_node ?_
            simp only [opsAt, List.filterMap_nil]
            refine wpQuiet_nil ?_
            refine all_one ?_
            · intro K hK
              refine loud_op rfl rfl ?_
              have x0 := S.out.get 3 0 rfl rfl
              have z0 := S.out.free 3 0 rfl
              go_simp
              have S := Lib.hid ((S.out.set 3 0 (.slice (some ⟨v3.heap.size, 0, none⟩) N N) rfl).fix)
              have HB := Lib.hid (HB.out.setCell (p := ⟨v0.heap.size, 0, none⟩) HL4.out (.slice (some ⟨v3.heap.size, 0, none⟩) N N))
              refine hK _ _ HB.out ?_
              clear hK K x0 z0
              obtain ⟨v5, hwd⟩ : ∃ x, v4.setCell ⟨v0.heap.size, 0, none⟩ (.slice (some ⟨v3.heap.size, 0, none⟩) N N) = x := ⟨_, rfl⟩
              rw [hwd] at S HB ⊢
              clear hwd
              refine treeB_node ?_
              simp only [opsAt, List.filterMap_nil]
              refine wpQuiet_nil ?_
              refine all_one ?_
              · intro K hK
                refine loud_op rfl rfl ?_
                have x0 := S.out.get 2 0 rfl rfl
                have z0 := S.out.free 2 0 rfl
                go_simp
                have S := Lib.hid ((S.out.set 2 0 (.slice (some ⟨v2.heap.size, 0, none⟩) N N) rfl).fix)
                have HB := Lib.hid (HB.out.setCell (p := ⟨v1.heap.size, 0, none⟩) HL5.out (.slice (some ⟨v2.heap.size, 0, none⟩) N N))
                refine hK _ _ HB.out ?_
                clear hK K x0 z0
                obtain ⟨v6, hwd⟩ : ∃ x, v5.setCell ⟨v1.heap.size, 0, none⟩ (.slice (some ⟨v2.heap.size, 0, none⟩) N N) = x := ⟨_, rfl⟩
                rw [hwd] at S HB ⊢
                clear hwd
                refine treeB_last ?_
                simp only [opsAt, List.filterMap_nil]
                refine wpQuiet_nil ?_
                refine hKQ _ _ ⟨rfl, v0.heap.size, v1.heap.size, v3.heap.size, v2.heap.size, ?_, S.out.perm ((List.perm_middle (l₁ := [_, _, _]) (l₂ := [])).trans (List.Perm.cons _ ((List.perm_middle (l₁ := [_, _]) (l₂ := [])).trans (List.Perm.cons _ (List.Perm.cons _ (List.Perm.cons _ (List.Perm.refl _)))))))⟩
                kernel_rfl
    · intro K hK
      refine loud_op rfl rfl ?_
      go_simp
      have hbq := (Below.refl v0.heap.size v0).alloc (Nat.le_refl _) (.cells #[.slice none 0 0] 120)
      have S := Lib.hid (S.out.fix.alloc [.slice none 0 0] 120)
      have HL5 := Lib.hid HB.out.size
      obtain ⟨v1, hwd⟩ : ∃ x, v0.alloc (.cells #[.slice none 0 0] 120) = x := ⟨_, rfl⟩
      have S := Lib.hid (show St w v1 (v0.heap.size + 1) _ from by rw [← hwd]; exact S.out)
      rw [hwd] at hbq ⊢
      have S := Lib.hid S.out.fix
      have HB := Lib.hid (bto HB.out hbq)
      refine hK _ _ HB.out ?_
      clear hK K hbq hwd
      refine treeB_node ?_
      simp only [opsAt, List.filterMap_nil]
      refine wpQuiet_nil ?_
      refine all_three ?_ ?_ ?_
      · intro K hK
        refine loud_op rfl rfl ?_
        refine wp_make (.tmp 25) (.tmp 25) 22 rfl w.heap.size 3 i0 (.int .i64 0) 1 Tryz.underlying22 hi hz0 hz1 .i64 .i64 _ _ N rfl rfl rfl rfl hb hb2 S.out.bel.size ?_
        intro v2 hown hgr
        have hbq : Below v1.heap.size v1 v2 := ⟨hgr.os, hgr.tape, hgr.output, hgr.size, fun k hk => hgr.block k hk (by simp)⟩
        have S := Lib.hid (S.out.made' hgr hown)
        rw [madeI'] at S
        have HB := Lib.hid (bto HB.out hbq)
        refine hK _ _ HB.out ?_
        clear hK K hown hgr hbq
        refine treeB_node ?_
        simp only [opsAt, List.filterMap_nil]
        refine wpQuiet_nil ?_
        refine all_two ?_ ?_
        · intro K hK
          refine loud_op rfl rfl ?_
          refine wp_make (.tmp 27) (.tmp 27) 120 rfl w.heap.size 124 j0 (.agg #[.int .i64 0, .int .i64 0, .int .i64 0, .int .i64 0, .int .i64 0]) 5 Tryz.underlying120 ki kz0 kz1 .i64 .i64 _ _ N rfl rfl rfl rfl kb hb2 S.out.bel.size ?_
          intro v3 hown hgr
          have hbq : Below v2.heap.size v2 v3 := ⟨hgr.os, hgr.tape, hgr.output, hgr.size, fun k hk => hgr.block k hk (by simp)⟩
          have S := Lib.hid (S.out.made' hgr hown)
          rw [show (Value.agg #[Value.int IntKind.i64 0, .int .i64 0, .int .i64 0, .int .i64 0, .int .i64 0]).cells = #[Value.int IntKind.i64 0, .int .i64 0, .int .i64 0, .int .i64 0, .int .i64 0] from rfl, madeA] at S
          have HB := Lib.hid (bto HB.out hbq)
          refine hK _ _ HB.out ?_
          clear hK K hown hgr hbq
          refine treeB_node ?_
          simp only [opsAt, List.filterMap_nil]
          refine wpQuiet_nil ?_
          refine all_one ?_
          · intro K hK
            refine loud_op rfl rfl ?_
            go_simp
            have hbq := (Below.refl v3.heap.size v3).alloc (Nat.le_refl _) (.cells #[.slice none 0 0] 22)
            have S := Lib.hid (S.out.fix.alloc [.slice none 0 0] 22)
            have HL4 := Lib.hid HB.out.size
            obtain ⟨v4, hwd⟩ : ∃ x, v3.alloc (.cells #[.slice none 0 0] 22) = x := ⟨_, rfl⟩
            have S := Lib.hid (show St w v4 (v3.heap.size + 1) _ from by rw [← hwd]; exact S.out)
            rw [hwd] at hbq ⊢
            have S := Lib.hid S.out.fix
            have HB := Lib.hid (bto HB.out hbq)
            refine hK _ _ HB.out ?_
            clear hK K hbq hwd
            refine treeB_node ?_
            simp only [opsAt, List.filterMap_nil]
            refine wpQuiet_nil ?_
            refine all_one ?_
            · intro K hK
              refine loud_op rfl rfl ?_
              have x0 := S.out.get 0 0 rfl rfl
              have z0 := S.out.free 0 0 rfl
              go_simp
              have S := Lib.hid ((S.out.set 0 0 (.slice (some ⟨v1.heap.size, 0, none⟩) N N) rfl).fix)
              have HB := Lib.hid (HB.out.setCell (p := ⟨v3.heap.size, 0, none⟩) HL4.out (.slice (some ⟨v1.heap.size, 0, none⟩) N N))
              refine hK _ _ HB.out ?_
              clear hK K x0 z0
              obtain ⟨v5, hwd⟩ : ∃ x, v4.setCell ⟨v3.heap.size, 0, none⟩ (.slice (some ⟨v1.heap.size, 0, none⟩) N N) = x := ⟨_, rfl⟩
              rw [hwd] at S HB ⊢
              clear hwd
              refine treeB_node ?_
              simp only [opsAt, List.filterMap_nil]
              refine wpQuiet_nil ?_
              refine all_one ?_
              · intro K hK
                refine loud_op rfl rfl ?_
                have x0 := S.out.get 3 0 rfl rfl
                have z0 := S.out.free 3 0 rfl
                go_simp
                have S := Lib.hid ((S.out.set 3 0 (.slice (some ⟨v2.heap.size, 0, none⟩) N N) rfl).fix)
                have HB := Lib.hid (HB.out.setCell (p := ⟨v0.heap.size, 0, none⟩) HL5.out (.slice (some ⟨v2.heap.size, 0, none⟩) N N))
                refine hK _ _ HB.out ?_
                clear hK K x0 z0
                obtain ⟨v6, hwd⟩ : ∃ x, v5.setCell ⟨v0.heap.size, 0, none⟩ (.slice (some ⟨v2.heap.size, 0, none⟩) N N) = x := ⟨_, rfl⟩
                rw [hwd] at S HB ⊢
                clear hwd
                refine treeB_last ?_
                simp only [opsAt, List.filterMap_nil]
                refine wpQuiet_nil ?_
                refine hKQ _ _ ⟨rfl, v3.heap.size, v0.heap.size, v1.heap.size, v2.heap.size, ?_, S.out.perm (List.Perm.cons _ ((List.perm_middle (l₁ := [_, _]) (l₂ := [])).trans (List.Perm.cons _ ((List.perm_middle (l₁ := [_]) (l₂ := [])).trans (List.Perm.cons _ (List.Perm.cons _ (List.Perm.refl _)))))))⟩
                kernel_rfl
        · intro K hK
          refine loud_op rfl rfl ?_
          go_simp
          have hbq := (Below.refl v2.heap.size v2).alloc (Nat.le_refl _) (.cells #[.slice none 0 0] 22)
          have S := Lib.hid (S.out.fix.alloc [.slice none 0 0] 22)
          have HL4 := Lib.hid HB.out.size
          obtain ⟨v3, hwd⟩ : ∃ x, v2.alloc (.cells #[.slice none 0 0] 22) = x := ⟨_, rfl⟩
          have S := Lib.hid (show St w v3 (v2.heap.size + 1) _ from by rw [← hwd]; exact S.out)
          rw [hwd] at hbq ⊢
          have S := Lib.hid S.out.fix
          have HB := Lib.hid (bto HB.out hbq)
          refine hK _ _ HB.out ?_
          clear hK K hbq hwd
          refine treeB_node ?_
          simp only [opsAt, List.filterMap_nil]
          refine wpQuiet_nil ?_
          refine all_two ?_ ?_
          · intro K hK
            refine loud_op rfl rfl ?_
            refine wp_make (.tmp 27) (.tmp 27) 120 rfl w.heap.size 124 j0 (.agg #[.int .i64 0, .int .i64 0, .int .i64 0, .int .i64 0, .int .i64 0]) 5 Tryz.underlying120 ki kz0 kz1 .i64 .i64 _ _ N rfl rfl rfl rfl kb hb2 S.out.bel.size ?_
            intro v4 hown hgr
            have hbq : Below v3.heap.size v3 v4 := ⟨hgr.os, hgr.tape, hgr.output, hgr.size, fun k hk => hgr.block k hk (by simp)⟩
            have S := Lib.hid (S.out.made' hgr hown)
            rw [show (Value.agg #[Value.int IntKind.i64 0, .int .i64 0, .int .i64 0, .int .i64 0, .int .i64 0]).cells = #[Value.int IntKind.i64 0, .int .i64 0, .int .i64 0, .int .i64 0, .int .i64 0] from rfl, madeA] at S
            have HB := Lib.hid (bto HB.out hbq)
            refine hK _ _ HB.out ?_
            clear hK K hown hgr hbq
            refine treeB_node ?_
            simp only [opsAt, List.filterMap_nil]
            refine wpQuiet_nil ?_
            refine all_one ?_
            · intro K hK
              refine loud_op rfl rfl ?_
              have x0 := S.out.get 1 0 rfl rfl
              have z0 := S.out.free 1 0 rfl
              go_simp
              have S := Lib.hid ((S.out.set 1 0 (.slice (some ⟨v1.heap.size, 0, none⟩) N N) rfl).fix)
              have HB := Lib.hid (HB.out.setCell (p := ⟨v2.heap.size, 0, none⟩) HL4.out (.slice (some ⟨v1.heap.size, 0, none⟩) N N))
              refine hK _ _ HB.out ?_
              clear hK K x0 z0
              obtain ⟨v5, hwd⟩ : ∃ x, v4.setCell ⟨v2.heap.size, 0, none⟩ (.slice (some ⟨v1.heap.size, 0, none⟩) N N) = x := ⟨_, rfl⟩
              rw [hwd] at S HB ⊢
              clear hwd
              refine treeB_node ?_
              simp only [opsAt, List.filterMap_nil]
              refine wpQuiet_nil ?_
              refine all_one ?_
              · intro K hK
                refine loud_op rfl rfl ?_
                have x0 := S.out.get 3 0 rfl rfl
                have z0 := S.out.free 3 0 rfl
                go_simp
                have S := Lib.hid ((S.out.set 3 0 (.slice (some ⟨v3.heap.size, 0, none⟩) N N) rfl).fix)
                have HB := Lib.hid (HB.out.setCell (p := ⟨v0.heap.size, 0, none⟩) HL5.out (.slice (some ⟨v3.heap.size, 0, none⟩) N N))
                refine hK _ _ HB.out ?_
                clear hK K x0 z0
                obtain ⟨v6, hwd⟩ : ∃ x, v5.setCell ⟨v0.heap.size, 0, none⟩ (.slice (some ⟨v3.heap.size, 0, none⟩) N N) = x := ⟨_, rfl⟩
                rw [hwd] at S HB ⊢
                clear hwd
                refine treeB_last ?_
                simp only [opsAt, List.filterMap_nil]
                refine wpQuiet_nil ?_
                refine hKQ _ _ ⟨rfl, v2.heap.size, v0.heap.size, v1.heap.size, v3.heap.size, ?_, S.out.perm ((List.perm_middle (l₁ := [_]) (l₂ := [_, _])).trans (List.Perm.cons _ ((List.perm_middle (l₁ := [_, _]) (l₂ := [])).trans (List.Perm.cons _ ((List.perm_middle (l₁ := [_]) (l₂ := [])).trans (List.Perm.cons _ (List.Perm.cons _ (List.Perm.refl _))))))))⟩
                kernel_rfl
          · intro K hK
            refine loud_op rfl rfl ?_
            have x0 := S.out.get 0 0 rfl rfl
            have z0 := S.out.free 0 0 rfl
            go_simp
            have S := Lib.hid ((S.out.set 0 0 (.slice (some ⟨v1.heap.size, 0, none⟩) N N) rfl).fix)
            have HB := Lib.hid (HB.out.setCell (p := ⟨v2.heap.size, 0, none⟩) HL4.out (.slice (some ⟨v1.heap.size, 0, none⟩) N N))
            refine hK _ _ HB.out ?_
            clear hK K x0 z0
            obtain ⟨v4, hwd⟩ : ∃ x, v3.setCell ⟨v2.heap.size, 0, none⟩ (.slice (some ⟨v1.heap.size, 0, none⟩) N N) = x := ⟨_, rfl⟩
            rw [hwd] at S HB ⊢
            clear hwd
            refine treeB_node ?_
            simp only [opsAt, List.filterMap_nil]
            refine wpQuiet_nil ?_
            refine all_one ?_
            · intro K hK
              refine loud_op rfl rfl ?_
              refine wp_make (.tmp 27) (.tmp 27) 120 rfl w.heap.size 124 j0 (.agg #[.int .i64 0, .int .i64 0, .int .i64 0, .int .i64 0, .int .i64 0]) 5 Tryz.underlying120 ki kz0 kz1 .i64 .i64 _ _ N rfl rfl rfl rfl kb hb2 S.out.bel.size ?_
              intro v5 hown hgr
              have hbq : Below v4.heap.size v4 v5 := ⟨hgr.os, hgr.tape, hgr.output, hgr.size, fun k hk => hgr.block k hk (by simp)⟩
              have S := Lib.hid (S.out.made' hgr hown)
              rw [show (Value.agg #[Value.int IntKind.i64 0, .int .i64 0, .int .i64 0, .int .i64 0, .int .i64 0]).cells = #[Value.int IntKind.i64 0, .int .i64 0, .int .i64 0, .int .i64 0, .int .i64 0] from rfl, madeA] at S
              have HB := Lib.hid (bto HB.out hbq)
              refine hK _ _ HB.out ?_
              clear hK K hown hgr hbq
              refine treeB_node ?_
              simp only [opsAt, List.filterMap_nil]
              refine wpQuiet_nil ?_
              refine all_one ?_
              · intro K hK
                refine loud_op rfl rfl ?_
                have x0 := S.out.get 3 0 rfl rfl
                have z0 := S.out.free 3 0 rfl
                go_simp
                have S := Lib.hid ((S.out.set 3 0 (.slice (some ⟨v4.heap.size, 0, none⟩) N N) rfl).fix)
                have HB := Lib.hid (HB.out.setCell (p := ⟨v0.heap.size, 0, none⟩) HL5.out (.slice (some ⟨v4.heap.size, 0, none⟩) N N))
                refine hK _ _ HB.out ?_
                clear hK K x0 z0
                obtain ⟨v6, hwd⟩ : ∃ x, v5.setCell ⟨v0.heap.size, 0, none⟩ (.slice (some ⟨v4.heap.size, 0, none⟩) N N) = x := ⟨_, rfl⟩
                rw [hwd] at S HB ⊢
                clear hwd
                refine treeB_last ?_
                simp only [opsAt, List.filterMap_nil]
                refine wpQuiet_nil ?_
                refine hKQ _ _ ⟨rfl, v2.heap.size, v0.heap.size, v1.heap.size, v4.heap.size, ?_, S.out.perm ((List.perm_middle (l₁ := [_]) (l₂ := [_, _])).trans (List.Perm.cons _ ((List.perm_middle (l₁ := [_, _]) (l₂ := [])).trans (List.Perm.cons _ ((List.perm_middle (l₁ := [_]) (l₂ := [])).trans (List.Perm.cons _ (List.Perm.cons _ (List.Perm.refl _))))))))⟩
                kernel_rfl
      · intro K hK
        refine loud_op rfl rfl ?_
        refine wp_make (.tmp 27) (.tmp 27) 120 rfl w.heap.size 124 j0 (.agg #[.int .i64 0, .int .i64 0, .int .i64 0, .int .i64 0, .int .i64 0]) 5 Tryz.underlying120 ki kz0 kz1 .i64 .i64 _ _ N rfl rfl rfl rfl kb hb2 S.out.bel.size ?_
        intro v2 hown hgr
        have hbq : Below v1.heap.size v1 v2 := ⟨hgr.os, hgr.tape, hgr.output, hgr.size, fun k hk => hgr.block k hk (by simp)⟩
        have S := Lib.hid (S.out.made' hgr hown)
        rw [show (Value.agg #[Value.int IntKind.i64 0, .int .i64 0, .int .i64 0, .int .i64 0, .int .i64 0]).cells = #[Value.int IntKind.i64 0, .int .i64 0, .int .i64 0, .int .i64 0, .int .i64 0] from rfl, madeA] at S
        have HB := Lib.hid (bto HB.out hbq)
        refine hK _ _ HB.out ?_
        clear hK K hown hgr hbq
        refine treeB_node ?_
        simp only [opsAt, List.filterMap_nil]
        refine wpQuiet_nil ?_
        refine all_two ?_ ?_
        · intro K hK
          refine loud_op rfl rfl ?_
          refine wp_make (.tmp 25) (.tmp 25) 22 rfl w.heap.size 3 i0 (.int .i64 0) 1 Tryz.underlying22 hi hz0 hz1 .i64 .i64 _ _ N rfl rfl rfl rfl hb hb2 S.out.bel.size ?_
          intro v3 hown hgr
          have hbq : Below v2.heap.size v2 v3 := ⟨hgr.os, hgr.tape, hgr.output, hgr.size, fun k hk => hgr.block k hk (by simp)⟩
          have S := Lib.hid (S.out.made' hgr hown)
          rw [madeI'] at S
          have HB := Lib.hid (bto HB.out hbq)
          refine hK _ _ HB.out ?_
          clear hK K hown hgr hbq
          refine treeB_node ?_
          simp only [opsAt, List.filterMap_nil]
          refine wpQuiet_nil ?_
          refine all_one ?_
          · intro K hK
            refine loud_op rfl rfl ?_
            go_simp
            have hbq := (Below.refl v3.heap.size v3).alloc (Nat.le_refl _) (.cells #[.slice none 0 0] 22)
            have S := Lib.hid (S.out.fix.alloc [.slice none 0 0] 22)
            have HL4 := Lib.hid HB.out.size
            obtain ⟨v4, hwd⟩ : ∃ x, v3.alloc (.cells #[.slice none 0 0] 22) = x := ⟨_, rfl⟩
            have S := Lib.hid (show St w v4 (v3.heap.size + 1) _ from by rw [← hwd]; exact S.out)
            rw [hwd] at hbq ⊢
            have S := Lib.hid S.out.fix
            have HB := Lib.hid (bto HB.out hbq)
            refine hK _ _ HB.out ?_
            clear hK K hbq hwd
            refine treeB_node ?_
            simp only [opsAt, List.filterMap_nil]
            refine wpQuiet_nil ?_
            refine all_one ?_
            · intro K hK
              refine loud_op rfl rfl ?_
              have x0 := S.out.get 0 0 rfl rfl
              have z0 := S.out.free 0 0 rfl
              go_simp
              have S := Lib.hid ((S.out.set 0 0 (.slice (some ⟨v2.heap.size, 0, none⟩) N N) rfl).fix)
              have HB := Lib.hid (HB.out.setCell (p := ⟨v3.heap.size, 0, none⟩) HL4.out (.slice (some ⟨v2.heap.size, 0, none⟩) N N))
              refine hK _ _ HB.out ?_
              clear hK K x0 z0
              obtain ⟨v5, hwd⟩ : ∃ x, v4.setCell ⟨v3.heap.size, 0, none⟩ (.slice (some ⟨v2.heap.size, 0, none⟩) N N) = x := ⟨_, rfl⟩
              rw [hwd] at S HB ⊢
              clear hwd
              refine treeB_node ?_
              simp only [opsAt, List.filterMap_nil]
              refine wpQuiet_nil ?_
              refine all_one ?_
              · intro K hK
                refine loud_op rfl rfl ?_
                have x0 := S.out.get 3 0 rfl rfl
                have z0 := S.out.free 3 0 rfl
                go_simp
                have S := Lib.hid ((S.out.set 3 0 (.slice (some ⟨v1.heap.size, 0, none⟩) N N) rfl).fix)
                have HB := Lib.hid (HB.out.setCell (p := ⟨v0.heap.size, 0, none⟩) HL5.out (.slice (some ⟨v1.heap.size, 0, none⟩) N N))
                refine hK _ _ HB.out ?_
                clear hK K x0 z0
                obtain ⟨v6, hwd⟩ : ∃ x, v5.setCell ⟨v0.heap.size, 0, none⟩ (.slice (some ⟨v1.heap.size, 0, none⟩) N N) = x := ⟨_, rfl⟩
                rw [hwd] at S HB ⊢
                clear hwd
                refine treeB_last ?_
                simp only [opsAt, List.filterMap_nil]
                refine wpQuiet_nil ?_
                refine hKQ _ _ ⟨rfl, v3.heap.size, v0.heap.size, v2.heap.size, v1.heap.size, ?_, S.out.perm (List.Perm.cons _ ((List.perm_middle (l₁ := [_, _]) (l₂ := [])).trans (List.Perm.cons _ (List.Perm.cons _ (List.Perm.cons _ (List.Perm.refl _))))))⟩
                kernel_rfl
        · intro K hK
          refine loud_op rfl rfl ?_
          go_simp
          have hbq := (Below.refl v2.heap.size v2).alloc (Nat.le_refl _) (.cells #[.slice none 0 0] 22)
          have S := Lib.hid (S.out.fix.alloc [.slice none 0 0] 22)
          have HL4 := Lib.hid HB.out.size
          obtain ⟨v3, hwd⟩ : ∃ x, v2.alloc (.cells #[.slice none 0 0] 22) = x := ⟨_, rfl⟩
          have S := Lib.hid (show St w v3 (v2.heap.size + 1) _ from by rw [← hwd]; exact S.out)
          rw [hwd] at hbq ⊢
          have S := Lib.hid S.out.fix
          have HB := Lib.hid (bto HB.out hbq)
          refine hK _ _ HB.out ?_
          clear hK K hbq hwd
          refine treeB_node ?_
          simp only [opsAt, List.filterMap_nil]
          refine wpQuiet_nil ?_
          refine all_one ?_
          · intro K hK
            refine loud_op rfl rfl ?_
            refine wp_make (.tmp 25) (.tmp 25) 22 rfl w.heap.size 3 i0 (.int .i64 0) 1 Tryz.underlying22 hi hz0 hz1 .i64 .i64 _ _ N rfl rfl rfl rfl hb hb2 S.out.bel.size ?_
            intro v4 hown hgr
            have hbq : Below v3.heap.size v3 v4 := ⟨hgr.os, hgr.tape, hgr.output, hgr.size, fun k hk => hgr.block k hk (by simp)⟩
            have S := Lib.hid (S.out.made' hgr hown)
            rw [madeI'] at S
            have HB := Lib.hid (bto HB.out hbq)
            refine hK _ _ HB.out ?_
            clear hK K hown hgr hbq
            refine treeB_node ?_
            simp only [opsAt, List.filterMap_nil]
            refine wpQuiet_nil ?_
            refine all_one ?_
            · intro K hK
              refine loud_op rfl rfl ?_
              have x0 := S.out.get 1 0 rfl rfl
              have z0 := S.out.free 1 0 rfl
              go_simp
              have S := Lib.hid ((S.out.set 1 0 (.slice (some ⟨v3.heap.size, 0, none⟩) N N) rfl).fix)
              have HB := Lib.hid (HB.out.setCell (p := ⟨v2.heap.size, 0, none⟩) HL4.out (.slice (some ⟨v3.heap.size, 0, none⟩) N N))
              refine hK _ _ HB.out ?_
              clear hK K x0 z0
              obtain ⟨v5, hwd⟩ : ∃ x, v4.setCell ⟨v2.heap.size, 0, none⟩ (.slice (some ⟨v3.heap.size, 0, none⟩) N N) = x := ⟨_, rfl⟩
              rw [hwd] at S HB ⊢
              clear hwd
              refine treeB_node ?_
              simp only [opsAt, List.filterMap_nil]
              refine wpQuiet_nil ?_
              refine all_one ?_
              · intro K hK
                refine loud_op rfl rfl ?_
                have x0 := S.out.get 3 0 rfl rfl
                have z0 := S.out.free 3 0 rfl
                go_simp
                have S := Lib.hid ((S.out.set 3 0 (.slice (some ⟨v1.heap.size, 0, none⟩) N N) rfl).fix)
                have HB := Lib.hid (HB.out.setCell (p := ⟨v0.heap.size, 0, none⟩) HL5.out (.slice (some ⟨v1.heap.size, 0, none⟩) N N))
                refine hK _ _ HB.out ?_
                clear hK K x0 z0
                obtain ⟨v6, hwd⟩ : ∃ x, v5.setCell ⟨v0.heap.size, 0, none⟩ (.slice (some ⟨v1.heap.size, 0, none⟩) N N) = x := ⟨_, rfl⟩
                rw [hwd] at S HB ⊢
                clear hwd
                refine treeB_last ?_
                simp only [opsAt, List.filterMap_nil]
                refine wpQuiet_nil ?_
                refine hKQ _ _ ⟨rfl, v2.heap.size, v0.heap.size, v3.heap.size, v1.heap.size, ?_, S.out.perm ((List.perm_middle (l₁ := [_]) (l₂ := [_, _])).trans (List.Perm.cons _ ((List.perm_middle (l₁ := [_, _]) (l₂ := [])).trans (List.Perm.cons _ (List.Perm.cons _ (List.Perm.cons _ (List.Perm.refl _)))))))⟩
                kernel_rfl
      · intro K hK
        refine loud_op rfl rfl ?_
        go_simp
        have hbq := (Below.refl v1.heap.size v1).alloc (Nat.le_refl _) (.cells #[.slice none 0 0] 22)
        have S := Lib.hid (S.out.fix.alloc [.slice none 0 0] 22)
        have HL4 := Lib.hid HB.out.size
        obtain ⟨v2, hwd⟩ : ∃ x, v1.alloc (.cells #[.slice none 0 0] 22) = x := ⟨_, rfl⟩
        have S := Lib.hid (show St w v2 (v1.heap.size + 1) _ from by rw [← hwd]; exact S.out)
        rw [hwd] at hbq ⊢
        have S := Lib.hid S.out.fix
        have HB := Lib.hid (bto HB.out hbq)
        refine hK _ _ HB.out ?_
        clear hK K hbq hwd
        refine treeB_node ?_
        simp only [opsAt, List.filterMap_nil]
        refine wpQuiet_nil ?_
        refine all_two ?_ ?_
        · intro K hK
          refine loud_op rfl rfl ?_
          refine wp_make (.tmp 25) (.tmp 25) 22 rfl w.heap.size 3 i0 (.int .i64 0) 1 Tryz.underlying22 hi hz0 hz1 .i64 .i64 _ _ N rfl rfl rfl rfl hb hb2 S.out.bel.size ?_
          intro v3 hown hgr
          have hbq : Below v2.heap.size v2 v3 := ⟨hgr.os, hgr.tape, hgr.output, hgr.size, fun k hk => hgr.block k hk (by simp)⟩
          have S := Lib.hid (S.out.made' hgr hown)
          rw [madeI'] at S
          have HB := Lib.hid (bto HB.out hbq)
          refine hK _ _ HB.out ?_
          clear hK K hown hgr hbq
          refine treeB_node ?_
          simp only [opsAt, List.filterMap_nil]
          refine wpQuiet_nil ?_
          refine all_two ?_ ?_
          · intro K hK
            refine loud_op rfl rfl ?_
            refine wp_make (.tmp 27) (.tmp 27) 120 rfl w.heap.size 124 j0 (.agg #[.int .i64 0, .int .i64 0, .int .i64 0, .int .i64 0, .int .i64 0]) 5 Tryz.underlying120 ki kz0 kz1 .i64 .i64 _ _ N rfl rfl rfl rfl kb hb2 S.out.bel.size ?_
            intro v4 hown hgr
            have hbq : Below v3.heap.size v3 v4 := ⟨hgr.os, hgr.tape, hgr.output, hgr.size, fun k hk => hgr.block k hk (by simp)⟩
            have S := Lib.hid (S.out.made' hgr hown)
            rw [show (Value.agg #[Value.int IntKind.i64 0, .int .i64 0, .int .i64 0, .int .i64 0, .int .i64 0]).cells = #[Value.int IntKind.i64 0, .int .i64 0, .int .i64 0, .int .i64 0, .int .i64 0] from rfl, madeA] at S
            have HB := Lib.hid (bto HB.out hbq)
            refine hK _ _ HB.out ?_
            clear hK K hown hgr hbq
            refine treeB_node ?_
            simp only [opsAt, List.filterMap_nil]
            refine wpQuiet_nil ?_
            refine all_one ?_
            · intro K hK
              refine loud_op rfl rfl ?_
              have x0 := S.out.get 2 0 rfl rfl
              have z0 := S.out.free 2 0 rfl
              go_simp
              have S := Lib.hid ((S.out.set 2 0 (.slice (some ⟨v2.heap.size, 0, none⟩) N N) rfl).fix)
              have HB := Lib.hid (HB.out.setCell (p := ⟨v1.heap.size, 0, none⟩) HL4.out (.slice (some ⟨v2.heap.size, 0, none⟩) N N))
              refine hK _ _ HB.out ?_
              clear hK K x0 z0
              obtain ⟨v5, hwd⟩ : ∃ x, v4.setCell ⟨v1.heap.size, 0, none⟩ (.slice (some ⟨v2.heap.size, 0, none⟩) N N) = x := ⟨_, rfl⟩
              rw [hwd] at S HB ⊢
              clear hwd
              refine treeB_node ?_
              simp only [opsAt, List.filterMap_nil]
              refine wpQuiet_nil ?_
              refine all_one ?_
              · intro K hK
                refine loud_op rfl rfl ?_
                have x0 := S.out.get 3 0 rfl rfl
                have z0 := S.out.free 3 0 rfl
                go_simp
                have S := Lib.hid ((S.out.set 3 0 (.slice (some ⟨v3.heap.size, 0, none⟩) N N) rfl).fix)
                have HB := Lib.hid (HB.out.setCell (p := ⟨v0.heap.size, 0, none⟩) HL5.out (.slice (some ⟨v3.heap.size, 0, none⟩) N N))
                refine hK _ _ HB.out ?_
                clear hK K x0 z0
                obtain ⟨v6, hwd⟩ : ∃ x, v5.setCell ⟨v0.heap.size, 0, none⟩ (.slice (some ⟨v3.heap.size, 0, none⟩) N N) = x := ⟨_, rfl⟩
                rw [hwd] at S HB ⊢
                clear hwd
                refine treeB_last ?_
                simp only [opsAt, List.filterMap_nil]
                refine wpQuiet_nil ?_
                refine hKQ _ _ ⟨rfl, v1.heap.size, v0.heap.size, v2.heap.size, v3.heap.size, ?_, S.out.perm ((List.perm_middle (l₁ := [_, _]) (l₂ := [_])).trans (List.Perm.cons _ ((List.perm_middle (l₁ := [_, _]) (l₂ := [])).trans (List.Perm.cons _ ((List.perm_middle (l₁ := [_]) (l₂ := [])).trans (List.Perm.cons _ (List.Perm.cons _ (List.Perm.refl _))))))))⟩
                kernel_rfl
          · intro K hK
            refine loud_op rfl rfl ?_
            have x0 := S.out.get 1 0 rfl rfl
            have z0 := S.out.free 1 0 rfl
            go_simp
            have S := Lib.hid ((S.out.set 1 0 (.slice (some ⟨v2.heap.size, 0, none⟩) N N) rfl).fix)
            have HB := Lib.hid (HB.out.setCell (p := ⟨v1.heap.size, 0, none⟩) HL4.out (.slice (some ⟨v2.heap.size, 0, none⟩) N N))
            refine hK _ _ HB.out ?_
            clear hK K x0 z0
            obtain ⟨v4, hwd⟩ : ∃ x, v3.setCell ⟨v1.heap.size, 0, none⟩ (.slice (some ⟨v2.heap.size, 0, none⟩) N N) = x := ⟨_, rfl⟩
            rw [hwd] at S HB ⊢
            clear hwd
            refine treeB_node ?_
            simp only [opsAt, List.filterMap_nil]
            refine wpQuiet_nil ?_
            refine all_one ?_
            · intro K hK
              refine loud_op rfl rfl ?_
              refine wp_make (.tmp 27) (.tmp 27) 120 rfl w.heap.size 124 j0 (.agg #[.int .i64 0, .int .i64 0, .int .i64 0, .int .i64 0, .int .i64 0]) 5 Tryz.underlying120 ki kz0 kz1 .i64 .i64 _ _ N rfl rfl rfl rfl kb hb2 S.out.bel.size ?_
              intro v5 hown hgr
              have hbq : Below v4.heap.size v4 v5 := ⟨hgr.os, hgr.tape, hgr.output, hgr.size, fun k hk => hgr.block k hk (by simp)⟩
              have S := Lib.hid (S.out.made' hgr hown)
              rw [show (Value.agg #[Value.int IntKind.i64 0, .int .i64 0, .int .i64 0, .int .i64 0, .int .i64 0]).cells = #[Value.int IntKind.i64 0, .int .i64 0, .int .i64 0, .int .i64 0, .int .i64 0] from rfl, madeA] at S
              have HB := Lib.hid (bto HB.out hbq)
              refine hK _ _ HB.out ?_
              clear hK K hown hgr hbq
              refine treeB_node ?_
              simp only [opsAt, List.filterMap_nil]
              refine wpQuiet_nil ?_
              refine all_one ?_
              · intro K hK
                refine loud_op rfl rfl ?_
                have x0 := S.out.get 3 0 rfl rfl
                have z0 := S.out.free 3 0 rfl
                go_simp
                have S := Lib.hid ((S.out.set 3 0 (.slice (some ⟨v4.heap.size, 0, none⟩) N N) rfl).fix)
                have HB := Lib.hid (HB.out.setCell (p := ⟨v0.heap.size, 0, none⟩) HL5.out (.slice (some ⟨v4.heap.size, 0, none⟩) N N))
                refine hK _ _ HB.out ?_
                clear hK K x0 z0
                obtain ⟨v6, hwd⟩ : ∃ x, v5.setCell ⟨v0.heap.size, 0, none⟩ (.slice (some ⟨v4.heap.size, 0, none⟩) N N) = x := ⟨_, rfl⟩
                rw [hwd] at S HB ⊢
                clear hwd
                refine treeB_last ?_
                simp only [opsAt, List.filterMap_nil]
                refine wpQuiet_nil ?_
                refine hKQ _ _ ⟨rfl, v1.heap.size, v0.heap.size, v2.heap.size, v4.heap.size, ?_, S.out.perm ((List.perm_middle (l₁ := [_, _]) (l₂ := [_])).trans (List.Perm.cons _ ((List.perm_middle (l₁ := [_, _]) (l₂ := [])).trans (List.Perm.cons _ ((List.perm_middle (l₁ := [_]) (l₂ := [])).trans (List.Perm.cons _ (List.Perm.cons _ (List.Perm.refl _))))))))⟩
                kernel_rfl
        · intro K hK
          refine loud_op rfl rfl ?_
          refine wp_make (.tmp 27) (.tmp 27) 120 rfl w.heap.size 124 j0 (.agg #[.int .i64 0, .int .i64 0, .int .i64 0, .int .i64 0, .int .i64 0]) 5 Tryz.underlying120 ki kz0 kz1 .i64 .i64 _ _ N rfl rfl rfl rfl kb hb2 S.out.bel.size ?_
          intro v3 hown hgr
          have hbq : Below v2.heap.size v2 v3 := ⟨hgr.os, hgr.tape, hgr.output, hgr.size, fun k hk => hgr.block k hk (by simp)⟩
          have S := Lib.hid (S.out.made' hgr hown)
          rw [show (Value.agg #[Value.int IntKind.i64 0, .int .i64 0, .int .i64 0, .int .i64 0, .int .i64 0]).cells = #[Value.int IntKind.i64 0, .int .i64 0, .int .i64 0, .int .i64 0, .int .i64 0] from rfl, madeA] at S
          have HB := Lib.hid (bto HB.out hbq)
          refine hK _ _ HB.out ?_
          clear hK K hown hgr hbq
          refine treeB_node ?_
          simp only [opsAt, List.filterMap_nil]
          refine wpQuiet_nil ?_
          refine all_one ?_
          · intro K hK
            refine loud_op rfl rfl ?_
            refine wp_make (.tmp 25) (.tmp 25) 22 rfl w.heap.size 3 i0 (.int .i64 0) 1 Tryz.underlying22 hi hz0 hz1 .i64 .i64 _ _ N rfl rfl rfl rfl hb hb2 S.out.bel.size ?_
            intro v4 hown hgr
            have hbq : Below v3.heap.size v3 v4 := ⟨hgr.os, hgr.tape, hgr.output, hgr.size, fun k hk => hgr.block k hk (by simp)⟩
            have S := Lib.hid (S.out.made' hgr hown)
            rw [madeI'] at S
            have HB := Lib.hid (bto HB.out hbq)
            refine hK _ _ HB.out ?_
            clear hK K hown hgr hbq
            refine treeB_node ?_
            simp only [opsAt, List.filterMap_nil]
            refine wpQuiet_nil ?_
            refine all_one ?_
            · intro K hK
              refine loud_op rfl rfl ?_
              have x0 := S.out.get 2 0 rfl rfl
              have z0 := S.out.free 2 0 rfl
              go_simp
              have S := Lib.hid ((S.out.set 2 0 (.slice (some ⟨v3.heap.size, 0, none⟩) N N) rfl).fix)
              have HB := Lib.hid (HB.out.setCell (p := ⟨v1.heap.size, 0, none⟩) HL4.out (.slice (some ⟨v3.heap.size, 0, none⟩) N N))
              refine hK _ _ HB.out ?_
              clear hK K x0 z0
              obtain ⟨v5, hwd⟩ : ∃ x, v4.setCell ⟨v1.heap.size, 0, none⟩ (.slice (some ⟨v3.heap.size, 0, none⟩) N N) = x := ⟨_, rfl⟩
              rw [hwd] at S HB ⊢
              clear hwd
              refine treeB_node ?_
              simp only [opsAt, List.filterMap_nil]
              refine wpQuiet_nil ?_
              refine all_one ?_
              · intro K hK
                refine loud_op rfl rfl ?_
                have x0 := S.out.get 3 0 rfl rfl
                have z0 := S.out.free 3 0 rfl
                go_simp
                have S := Lib.hid ((S.out.set 3 0 (.slice (some ⟨v2.heap.size, 0, none⟩) N N) rfl).fix)
                have HB := Lib.hid (HB.out.setCell (p := ⟨v0.heap.size, 0, none⟩) HL5.out (.slice (some ⟨v2.heap.size, 0, none⟩) N N))
                refine hK _ _ HB.out ?_
                clear hK K x0 z0
                obtain ⟨v6, hwd⟩ : ∃ x, v5.setCell ⟨v0.heap.size, 0, none⟩ (.slice (some ⟨v2.heap.size, 0, none⟩) N N) = x := ⟨_, rfl⟩
                rw [hwd] at S HB ⊢
                clear hwd
                refine treeB_last ?_
                simp only [opsAt, List.filterMap_nil]
                refine wpQuiet_nil ?_
                refine hKQ _ _ ⟨rfl, v1.heap.size, v0.heap.size, v3.heap.size, v2.heap.size, ?_, S.out.perm ((List.perm_middle (l₁ := [_, _]) (l₂ := [_])).trans (List.Perm.cons _ ((List.perm_middle (l₁ := [_, _]) (l₂ := [])).trans (List.Perm.cons _ (List.Perm.cons _ (List.Perm.cons _ (List.Perm.refl _)))))))⟩
                kernel_rfl
  · rintro a' w2 ⟨b5, b6, p1, p3, rfl, S⟩
    go_simp
    have hp1 := ((S.own 2 rfl).lt p1 rfl)
    have hp3 := ((S.own 3 rfl).lt p3 rfl)
    have HNE := Lib.hid (show b5 ≠ p1 ∧ b6 ≠ p1 ∧ p3 ≠ p1 ∧ b5 ≠ p3 ∧ b6 ≠ p3 from ⟨fun e => S.apart' 0 2 rfl rfl (by decide) (b := p1) rfl (by rw [e]; rfl), fun e => S.apart' 1 2 rfl rfl (by decide) (b := p1) rfl (by rw [e]; rfl), fun e => S.apart' 3 2 rfl rfl (by decide) (b := p1) rfl (by rw [← e]; rfl), fun e => S.apart' 0 3 rfl rfl (by decide) (b := p3) rfl (by rw [e]; rfl), fun e => S.apart' 1 3 rfl rfl (by decide) (b := p3) rfl (by rw [e]; rfl)⟩)
    have S := Lib.hid (show St w w2 w2.heap.size [.box b5 [.slice (some ⟨p1, 0, none⟩) N N], .box b6 [.slice (some ⟨p3, 0, none⟩) N N], .own 3 1 (.slice (some ⟨p1, 0, none⟩) N N) N ((fillL N 0).map I), .own 124 5 (.slice (some ⟨p3, 0, none⟩) N N) N (arcRow (Bk.rowF N (Bk.startS M).src))] by rw [fillL_zero, start_src]; exact S)
    have x5 := S.out.get 0 0 rfl rfl
    go_wp2_with fail
    go_loopw [31] (fun i wr => ∃ k : Nat, k ≤ N ∧ i = I k ∧ Hid (St w wr wr.heap.size [.box b5 [.slice (some ⟨p1, 0, none⟩) N N], .box b6 [.slice (some ⟨p3, 0, none⟩) N N], .own 3 1 (.slice (some ⟨p1, 0, none⟩) N N) N ((fillL N k).map I), .own 124 5 (.slice (some ⟨p3, 0, none⟩) N N) N (arcRow (Bk.rowF N (Bk.startS M).src))])) (fun i _ => N - (intOf i).toNat)
    case atStart => exact ⟨0, by omega, rfl, S⟩
    case round =>
      clear S x5
      obtain ⟨k, hk, rfl, S⟩ := hrel
      have x5 := S.out.get 0 0 rfl rfl
      by_cases hlt : k < N
      · have hki : (k : Int) < (N : Int) := by omega
        have y0 := own_cell (S.out.own 2 rfl) k _ (rowGet (l := fillL N k) (by rw [fillL_len hk]; exact hlt))
        have z0 := (S.out.own 2 rfl).frozenAt k
        have S2 := Lib.hid (S.out.put 2 k (I Bk.farI) rfl)
        dsimp only [List.set_cons_zero, List.set_cons_succ] at S2
        rw [← List.map_set, fillL_set hlt] at S2
        clear S
        go_wp2_with fail
        go_roundw
        case rel => exact ⟨k + 1, by omega, by go_num, Lib.hid S2.out.fix⟩
        case measure => first | (simp [intOf]; done) | (simp [intOf]; omega)
      · obtain rfl : k = N := by omega
        have hMk : (M : Int) < (k : Int) := by have := HNM.out; omega
        have y0 := own_cell (S.out.own 2 rfl) M _ (rowGet (l := fillL k k) (by rw [fillL_len hk]; omega))
        have z0 := (S.out.own 2 rfl).frozenAt M
        have S2 := Lib.hid (S.out.put 2 M (I 0) rfl)
        dsimp only [List.set_cons_zero, List.set_cons_succ] at S2
        rw [← List.map_set, fillL_end] at S2
        have hMi : IntKind.i64.wrap ((k : Int) - 2) = (M : Int) := by have := HNM.out; rw [IntWalk.i64_in _ (by omega)]; omega
        clear S
        go_wp2_with fail
        have S2 := Lib.hid (show St w _ _ ([.box b5 [.slice (some ⟨p1, 0, none⟩) k k], .box b6 [.slice (some ⟨p3, 0, none⟩) k k], .own 3 1 (.slice (some ⟨p1, 0, none⟩) k k) k ((Bk.rowF k (Bk.passes (Bk.arcsB t.bt d) (Bk.startS M) 0).c).map I), .own 124 5 (.slice (some ⟨p3, 0, none⟩) k k) k (arcRow (Bk.rowF k (Bk.passes (Bk.arcsB t.bt d) (Bk.startS M) 0).src))] ++ ([] : List Nat).map markI) from S2.out.fix)
        obtain ⟨wq, hwq⟩ : ∃ x, wr.setCell ⟨p1, M, none⟩ (I 0) = x := ⟨_, rfl⟩
        rw [hwq] at S2
        simp only [hwq]
        clear hwq z0 y0
        refine wp_letter fun a0 ha0 => ?_
        have HA0 := Lib.hid ha0
        clear ha0
        refine wp_loop (fun a' wr => Hid (∃ (k' : Nat), k' ≤ k ∧ ∃ (Ds : List Nat), (∃ (u44 u45 u46 u87 : Value), a' = { (((((a0.put (some 43) (I k')).put (some 44) u44).put (some 45) u45).put (some 46) u46).put (some 87) u87) with defers := Ds.map markD }) ∧ Hid (St w wr wr.heap.size ([.box b5 [.slice (some ⟨p1, 0, none⟩) k k], .box b6 [.slice (some ⟨p3, 0, none⟩) k k], .own 3 1 (.slice (some ⟨p1, 0, none⟩) k k) k ((Bk.rowF k (Bk.passes (Bk.arcsB t.bt d) (Bk.startS M) k').c).map I), .own 124 5 (.slice (some ⟨p3, 0, none⟩) k k) k (arcRow (Bk.rowF k (Bk.passes (Bk.arcsB t.bt d) (Bk.startS M) k').src))] ++ Ds.map markI))))
          (fun a' _ => k - (intOf (a'.tmps.getD 43 undef)).toNat) (Lib.hid ⟨0, by omega, [], ⟨undef, undef, undef, undef, ?_⟩, S2⟩) ?_
        · rw [← HA0.out]; rfl
        clear S2
        rintro a' wr hI
        obtain ⟨k', hk', Ds, ⟨u44, u45, u46, u87, rfl⟩, S⟩ := hI.out
        clear hI
        rw [← HA0.out]
        go_simp
        by_cases hlt' : k' < k
        · have hlti : (k' : Int) < (k : Int) := by omega
          go_wp2_with fail
          refine wp_letter fun a1 ha1 => ?_
          have HA1 := Lib.hid ha1
          clear ha1
          have HL5 := Lib.hid (S.out.lt 0 rfl)
          have HL6 := Lib.hid (S.out.lt 1 rfl)
          have HL1 := Lib.hid ((S.out.own 2 rfl).lt p1 rfl)
          have HL3 := Lib.hid ((S.out.own 3 rfl).lt p3 rfl)
          have hbs := S.out.bel.size
          have HLT := Lib.hid (show ∀ (cs bs : List Value) (y : Item), y ∈ ([.box b5 [.slice (some ⟨p1, 0, none⟩) k k], .box b6 [.slice (some ⟨p3, 0, none⟩) k k], .own 3 1 (.slice (some ⟨p1, 0, none⟩) k k) k cs, .own 124 5 (.slice (some ⟨p3, 0, none⟩) k k) k bs] ++ Ds.map markI : List Item) → ∀ b, y.blk = some b → b < wr.heap.size from by
            intro cs bs y hy b hb
            rcases List.mem_append.1 hy with hy | hy
            · simp only [List.mem_cons, List.not_mem_nil, or_false] at hy
              rcases hy with rfl | rfl | rfl | rfl
              · injection hb with hb; rw [← hb]; exact HL5.out
              · injection hb with hb; rw [← hb]; exact HL6.out
              · injection hb with hb; rw [← hb]; exact HL1.out.2
              · injection hb with hb; rw [← hb]; exact HL3.out.2
            · exact (S.out.lt_of (List.mem_filterMap.2 ⟨y, List.mem_append_right _ hy, hb⟩)).2)
          refine (wpIn_wide (n := 5)).1 ?_
          refine wpIn_rangeFunc_RP (F := Fence.wide) rfl (by omega) (gf := 96) (pb := #[.pointer (some ⟨B, 0, none⟩)]) (lb := #[]) (by rw [← HA1.out]; rfl) trivial (enters_of Tryz.func96 (by kernel_rfl) rfl)
            (arcs_seq wr B w.heap.size [p1, p3] t d HV.out h12 HF.out.div w rfl S.out.bel (fun q hq => by simp only [List.mem_cons, List.not_mem_nil, or_false] at hq; rcases hq with hq | hq <;> rw [hq] <;> first | exact HL1.out.2 | exact HL3.out.2) HT.out) (fun h k => h.trans k) (KpX.putObj hbs) (Below.refl _ _) (fun _ => rfl)
            (fun pre W => Hid (wr.heap.size ≤ W.heap.size) ∧ Hid (St w W W.heap.size ([.box b5 [.slice (some ⟨p1, 0, none⟩) k k], .box b6 [.slice (some ⟨p3, 0, none⟩) k k], .own 3 1 (.slice (some ⟨p1, 0, none⟩) k k) k ((Bk.rowF k (pre.foldl Bk.relax (Bk.passes (Bk.arcsB t.bt d) (Bk.startS M) k')).c).map I), .own 124 5 (.slice (some ⟨p3, 0, none⟩) k k) k (arcRow (Bk.rowF k (pre.foldl Bk.relax (Bk.passes (Bk.arcsB t.bt d) (Bk.startS M) k')).src))] ++ Ds.map markI)))
            (fun _ _ _ => False) ?hI ?hIx (fun _ _ => trivial) ⟨Lib.hid (Nat.le_refl _), S⟩
            (fun pre x a' W => Hid (wr.heap.size ≤ W.heap.size) ∧ Hid (pre ++ [x] <+: Bk.arcsB t.bt d) ∧ ∃ Bx, Hid (wr.heap.size ≤ Bx) ∧ Hid (St w W W.heap.size (.box Bx (arcCells x) :: ([.box b5 [.slice (some ⟨p1, 0, none⟩) k k], .box b6 [.slice (some ⟨p3, 0, none⟩) k k], .own 3 1 (.slice (some ⟨p1, 0, none⟩) k k) k ((Bk.rowF k (pre.foldl Bk.relax (Bk.passes (Bk.arcsB t.bt d) (Bk.startS M) k')).c).map I), .own 124 5 (.slice (some ⟨p3, 0, none⟩) k k) k (arcRow (Bk.rowF k (pre.foldl Bk.relax (Bk.passes (Bk.arcsB t.bt d) (Bk.startS M) k')).src))] ++ Ds.map markI))) ∧ a' = { tmps := ((a1.put (some 47) (.agg (arcCells x).toArray)).put (some 8) (.pointer (some ⟨Bx, 0, none⟩))).tmps, defers := [] }) ?hAx ?assign ?body ?done ?stop
          case hI => exact fun s A B' row hs hg hr => ⟨Lib.hid (Nat.le_trans hs.1.out hg.size), Lib.hid (hs.2.out.up hg hr hbs (HLT.out _ _))⟩
          case hIx => exact fun c s A B' row hs hg hr => hs.elim
          case hAx =>
            rintro pre x a' _ A B' row ⟨h1, h2, Bx, h3, h4, h5⟩ hg hr
            refine ⟨Lib.hid (Nat.le_trans h1.out hg.size), h2, Bx, h3, Lib.hid (h4.out.other2 hg hr hbs (fun y hy => ?_)), h5⟩
            rcases List.mem_cons.1 hy with hy | hy
            · exact .inl (by rw [hy]; trivial)
            · exact .inr (HLT.out _ _ y hy)
          case assign =>
            rintro l pre x W K ⟨h1, h2⟩ hR hK
            have HR := Lib.hid hR
            clear hR
            have S2 := Lib.hid (h2.out.alloc (arcCells x) 124)
            simp only [encA, arcCells]
            rw [← HA1.out]
            gi_wp2
            refine hK _ _ ?_ ?_ ?_ ?_
            · exact (KeepsOthers.alloc _ _).from _
            · exact KpX.below ((Below.refl _ _).alloc (Nat.le_refl _) _) h2.out.bel.size
            · exact ⟨Lib.hid (by rw [World.size_alloc]; have := h1.out; omega), Lib.hid S2.out.tail.fix⟩
            · exact ⟨Lib.hid (by rw [World.size_alloc]; have := h1.out; omega), HR, W.heap.size, h1, Lib.hid S2.out.fix, by rw [← HA1.out]; rfl⟩
          case body =>
            rintro l pre x a' W hl ⟨r, hr⟩ - ⟨h1, h2, Bx, h3, h4, rfl⟩
            have hxA : x ∈ Bk.arcsB t.bt d := h2.out.subset (by simp)
            obtain ⟨hf0, ht0⟩ := Bk.arcs_lt HSM.out.ok x hxA
            have hkN : t.bt.nW + t.bt.nH + 2 = k := HN.out
            rw [hkN] at hf0 ht0
            have hca := Bk.arcs_cost HSM.out HF.out.div x hxA
            have hpre : pre <+: Bk.arcsB t.bt d := List.IsPrefix.trans (List.prefix_append _ _) h2.out
            have hcf := Bk.cost_at HSM.out h12 HF.out.div (show k' ≤ 13 by omega) hpre M x.fr
            have hct := Bk.cost_at HSM.out h12 HF.out.div (show k' ≤ 13 by omega) hpre M x.to
            have HST := Lib.hid (show (pre ++ [x]).foldl Bk.relax (Bk.passes (Bk.arcsB t.bt d) (Bk.startS M) k') = Bk.relax (pre.foldl Bk.relax (Bk.passes (Bk.arcsB t.bt d) (Bk.startS M) k')) x by rw [List.foldl_append]; rfl)
            obtain ⟨Z, hZ⟩ : ∃ Z, (pre.foldl Bk.relax (Bk.passes (Bk.arcsB t.bt d) (Bk.startS M) k')) = Z := ⟨_, rfl⟩
            rw [hZ] at hcf hct HST h4
            have HZ := Lib.hid hZ
            have hmost : Bk.mostB = 40353607000 := rfl
            have hfar : Bk.farI = 1152921504606846976 := rfl
            rw [hmost] at hca
            rw [hfar] at hcf hct
            have S := Lib.hid h4.out
            have hfi : (x.fr : Int) < (k : Int) := by omega
            have hti : (x.to : Int) < (k : Int) := by omega
            have HB3 := Lib.hid h3.out
            clear hl hr h4 h3 hpre hZ hkN hxA hmost hfar
            rw [← HA1.out]
            go_simp
            have yf := own_cell (S.out.own 3 rfl) x.fr _ (Bk.rowF_at _ hf0)
            have yt := own_cell (S.out.own 3 rfl) x.to _ (Bk.rowF_at _ ht0)
            have w1 : Z.c x.fr < 1152921504606846976 → IntKind.i64.wrap (Z.c x.fr + x.cost) = Z.c x.fr + x.cost := fun h => IntWalk.i64_in _ (by omega)
            have HBD := Lib.hid (And.intro hcf (And.intro hct hca))
            by_cases q1 : Z.c x.fr < 1152921504606846976
            · have w1 := w1 q1
              by_cases q2 : Z.c x.fr + x.cost < Z.c x.to
              · gi_wp2_with fail
                refine wpIn_region_seg [] [0, 1, 2, 3, 4, 5, 6, 7, 8, 9, 10, 11, 12, 13, 14, 15, 16, 17, 18, 19, 20, 21] [] 22 (by kernel_rfl) (by kernel_rfl) ?_
                intro KQ hKQ wz hbz
                have S := Lib.hid (S.out.call hbz)
                have HBZ := Lib.hid hbz
                clear hbz yf yt
                have x5 := cell_regrown (S.out.get 1 0 rfl rfl)
                have e0 := cell_regrown (S.out.get 0 0 rfl rfl)
                have e1 := cell_regrown (S.out.get 0 1 rfl rfl)
                have e2 := cell_regrown (S.out.get 0 2 rfl rfl)
                have yf := cell_regrown (own_cell (S.out.own 3 rfl) x.fr _ (Bk.rowF_at _ hf0))
                have yt := cell_regrown (own_cell (S.out.own 3 rfl) x.to _ (Bk.rowF_at _ ht0))
                refine seg_last ?_
                simp only [opsAt, List.filterMap_cons, List.filterMap_nil, List.getElem?_toArray, List.getElem?_cons_succ, List.getElem?_cons_zero]
                show wpQuiet _ _ _ _ [_, _, _, _, _, _, _, _, _, _, _, _, _, _, _, _, _, _, _, _, _, _] _
                repeat (first | go_big_quiet_step (fail) | quiet_step (fail))
                refine wpQuiet_nil ?_
                go_simp
                refine hKQ _ _ ?_
                clear hKQ KQ x5 e0 e1 e2 yf yt
                gi_wp2_with fail
                refine wpIn_region_treeC (.node [0, 1, 2, 3, 4, 5, 6, 7, 8, 9, 11, 12, 14] [10] (fun _ => .node [13, 15] [16] (fun _ => .last [17] [18]))) 18 (by kernel_rfl) (by kernel_rfl) ?_
                intro KQ hKQ v0 hbv
                have S := Lib.hid (S.out.call hbv)
                have HBV := Lib.hid hbv
                have hlt1 := ((S.out.own 3 rfl).lt p1 rfl).2
                have hlt3 := ((S.out.own 4 rfl).lt p3 rfl).2
                have hBx : Bx ≠ p1 := fun e => S.out.apart' 0 3 rfl rfl (by decide) (b := p1) rfl (by rw [e]; rfl)
                clear hbv
                refine ⟨CP v0 p1, CP.refl v0 hlt1, ?_⟩
                have x5 := cell_patched (S.out.get 1 0 rfl rfl) HNE.out.1
                have x6 := cell_patched (S.out.get 2 0 rfl rfl) HNE.out.2.1
                have e0 := cell_patched (S.out.get 0 0 rfl rfl) hBx
                have e1 := cell_patched (S.out.get 0 1 rfl rfl) hBx
                have e2 := cell_patched (S.out.get 0 2 rfl rfl) hBx
                have e3 := cell_patched (S.out.get 0 3 rfl rfl) hBx
                have e4 := cell_patched (S.out.get 0 4 rfl rfl) hBx
                refine treeC_node ?_
                simp only [opsAt, List.filterMap_cons, List.filterMap_nil, List.getElem?_toArray, List.getElem?_cons_succ, List.getElem?_cons_zero]
                show wpQuiet _ _ _ _ [_, _, _, _, _, _, _, _, _, _, _, _, _] _
                repeat (first | go_big_quiet_step (fail) | quiet_step (fail))
                refine wpQuiet_nil ?_
                refine all_one ?_
                intro K hK
                refine loud_op rfl rfl ?_
                have yf := own_cell (S.out.own 3 rfl) x.fr _ (Bk.rowF_at _ hf0)
                go_simp
                refine hK _ _ (CP.refl v0 hlt1) ?_
                clear hK K yf
                refine treeC_node ?_
                simp only [opsAt, List.filterMap_cons, List.filterMap_nil, List.getElem?_toArray, List.getElem?_cons_succ, List.getElem?_cons_zero]
                show wpQuiet _ _ _ _ [_, _] _
                repeat (first | go_big_quiet_step (fail) | quiet_step (fail))
                refine wpQuiet_nil ?_
                refine all_one ?_
                intro K hK
                refine loud_op rfl rfl ?_
                have yt := own_cell (S.out.own 3 rfl) x.to _ (Bk.rowF_at _ ht0)
                have zt := (S.out.own 3 rfl).frozenAt x.to
                go_simp
                have hgr := grown_setCell v0 ⟨p1, x.to, none⟩ (I (Z.c x.fr + x.cost))
                refine hK _ _ (CP.of hgr hlt1) ?_
                clear hK K yt zt x5 x6 e0 e1 e2 e3 e4
                have S1 := S.out.put 3 x.to (I (Z.c x.fr + x.cost)) rfl
                dsimp only [List.set_cons_zero, List.set_cons_succ, List.cons_append, List.nil_append] at S1
                rw [← List.map_set, Bk.rowF_upd] at S1
                have S1 := Lib.hid S1
                refine treeC_last ?_
                simp only [opsAt, List.filterMap_cons, List.filterMap_nil, List.getElem?_toArray, List.getElem?_cons_succ, List.getElem?_cons_zero]
                show wpQuiet _ _ _ _ [_] _
                repeat (first | go_big_quiet_step (fail) | quiet_step (fail))
                refine wpQuiet_nil ?_
                refine wpList_store_mid rfl 124 (.tmp 86) (.tmp 84) rfl p3 (x.to * 5) (arcCells x).toArray rfl rfl ?_ (by kernel_rfl) (all_oneCell_toArray (arc_one x)) ?_
                · exact S1.out.there 4 rfl (by rw [arcRow_len, Bk.rowF_len]; show x.to * 5 + 5 ≤ k * 5; omega)
                have S2 := St.puts (arcCells x) (x.to * 5) S1.out (i := 4) rfl
                rw [arcRow_set _ (by rw [Bk.rowF_len]; exact ht0), Bk.rowF_upd] at S2
                dsimp only [List.set_cons_zero, List.set_cons_succ, List.cons_append, List.nil_append] at S2
                have HKP := Lib.hid ((((KpX.below HBZ.out (by have := HB3.out; have := h1.out; omega) : KpX w.heap.size [p1, p3] W wz).trans (KpX.below HBV.out (by have := HB3.out; have := h1.out; have := HBZ.out.size; omega))).trans (KpX.grown hgr (by have := S.out.bel.size; exact this) (by intro q hq; injection hq with hq; rw [← hq]; exact ⟨HL1.out.1, by simp⟩))).trans (KpX.grown (grown_setCells (b := p3) (arcCells x) (x.to * 5) _) (by have := S1.out.bel.size; exact this) (by intro q hq; injection hq with hq; rw [← hq]; exact ⟨HL3.out.1, by simp⟩)))
                have HKO := Lib.hid ((((ko_below HBZ.out).trans (ko_below HBV.out)).trans (KeepsOthers.setCell v0 ⟨p1, x.to, none⟩ (I (Z.c x.fr + x.cost)))).trans (S1.out.ko 4 rfl trivial (grown_setCells (b := p3) (arcCells x) (x.to * 5) _)))
                have HR := Lib.hid (HST.out.trans (Bk.relax_yes (by exact q1) q2))
                have HSZ := Lib.hid (show wr.heap.size ≤ (((v0.setCell ⟨p1, x.to, none⟩ (I (Z.c x.fr + x.cost))).setCells p3 (x.to * 5) (arcCells x))).heap.size from by have a1 := h1.out; have a2 := HBZ.out.size; have a3 := HBV.out.size; rw [size_setCells]; simp [World.setCell]; omega)
                go_simp
                refine hKQ _ _ ?_
                clear hKQ KQ
                gi_wp2_with fail
                exact ⟨HKO.out.from _, HKP.out, HSZ, Lib.hid (by rw [HR.out]; exact S2.tail.fix)⟩

              · have HR := Lib.hid (HST.out.trans (Bk.relax_no (fun h => q2 h.2)))
                gi_wp2_with fail
                refine wpIn_region_seg [] [0, 1, 2, 3, 4, 5, 6, 7, 8, 9, 10, 11, 12, 13, 14, 15, 16, 17, 18, 19, 20, 21] [] 22 (by kernel_rfl) (by kernel_rfl) ?_
                intro KQ hKQ wz hbz
                have S := Lib.hid (S.out.call hbz)
                have HBZ := Lib.hid hbz
                clear hbz yf yt
                have x5 := cell_regrown (S.out.get 1 0 rfl rfl)
                have e0 := cell_regrown (S.out.get 0 0 rfl rfl)
                have e1 := cell_regrown (S.out.get 0 1 rfl rfl)
                have e2 := cell_regrown (S.out.get 0 2 rfl rfl)
                have yf := cell_regrown (own_cell (S.out.own 3 rfl) x.fr _ (Bk.rowF_at _ hf0))
                have yt := cell_regrown (own_cell (S.out.own 3 rfl) x.to _ (Bk.rowF_at _ ht0))
                refine seg_last ?_
                simp only [opsAt, List.filterMap_cons, List.filterMap_nil, List.getElem?_toArray, List.getElem?_cons_succ, List.getElem?_cons_zero]
                show wpQuiet _ _ _ _ [_, _, _, _, _, _, _, _, _, _, _, _, _, _, _, _, _, _, _, _, _, _] _
                repeat (first | go_big_quiet_step (fail) | quiet_step (fail))
                refine wpQuiet_nil ?_
                go_simp
                refine hKQ _ _ ?_
                clear hKQ KQ x5 e0 e1 e2 yf yt
                gi_wp2_with fail
                exact ⟨(ko_below HBZ.out).from _, KpX.below HBZ.out (by have := HB3.out; have := h1.out; omega), Lib.hid (Nat.le_trans h1.out HBZ.out.size), Lib.hid (by rw [HR.out]; exact S.out.tail)⟩

            · have HR := Lib.hid (HST.out.trans (Bk.relax_no (fun h => q1 h.1)))
              have q1e : Z.c x.fr = 1152921504606846976 := by omega
              clear w1 q1
              gi_wp2_with fail
              refine wpIn_region_seg [] [0, 1, 2, 3, 4, 5, 6, 7, 8, 9, 10, 11, 12, 13, 14, 15, 16, 17, 18, 19, 20, 21] [] 22 (by kernel_rfl) (by kernel_rfl) ?_
              intro KQ hKQ wz hbz
              have S := Lib.hid (S.out.call hbz)
              have HBZ := Lib.hid hbz
              clear hbz yf yt
              have x5 := cell_regrown (S.out.get 1 0 rfl rfl)
              have e0 := cell_regrown (S.out.get 0 0 rfl rfl)
              have e1 := cell_regrown (S.out.get 0 1 rfl rfl)
              have e2 := cell_regrown (S.out.get 0 2 rfl rfl)
              have yf := cell_regrown (own_cell (S.out.own 3 rfl) x.fr _ (Bk.rowF_at _ hf0))
              simp only [q1e] at yf
              have yt := cell_regrown (own_cell (S.out.own 3 rfl) x.to _ (Bk.rowF_at _ ht0))
              refine seg_last ?_
              simp only [opsAt, List.filterMap_cons, List.filterMap_nil, List.getElem?_toArray, List.getElem?_cons_succ, List.getElem?_cons_zero]
              show wpQuiet _ _ _ _ [_, _, _, _, _, _, _, _, _, _, _, _, _, _, _, _, _, _, _, _, _, _] _
              repeat (first | go_big_quiet_step (fail) | quiet_step (fail))
              refine wpQuiet_nil ?_
              go_simp
              refine hKQ _ _ ?_
              clear hKQ KQ x5 e0 e1 e2 yf yt
              gi_wp2_with fail
              exact ⟨(ko_below HBZ.out).from _, KpX.below HBZ.out (by have := HB3.out; have := h1.out; omega), Lib.hid (Nat.le_trans h1.out HBZ.out.size), Lib.hid (by rw [HR.out]; exact S.out.tail)⟩
          case done =>
            rintro D xs W hD hxs ⟨h1, hS⟩ hK
            subst hxs
            have S2 := Lib.hid ((hS.out.mark (by omega) hK (fun y hy b hb e => by have := HLT.out _ _ y hy b hb; omega)).perm (M := (([.box b5 [.slice (some ⟨p1, 0, none⟩) k k], .box b6 [.slice (some ⟨p3, 0, none⟩) k k], .own 3 1 (.slice (some ⟨p1, 0, none⟩) k k) k ((Bk.rowF k (Bk.passes (Bk.arcsB t.bt d) (Bk.startS M) (k' + 1)).c).map I), .own 124 5 (.slice (some ⟨p3, 0, none⟩) k k) k (arcRow (Bk.rowF k (Bk.passes (Bk.arcsB t.bt d) (Bk.startS M) (k' + 1)).src))] : List Item) ++ (D :: Ds).map markI)) (List.perm_middle (l₁ := ([.box b5 [.slice (some ⟨p1, 0, none⟩) k k], .box b6 [.slice (some ⟨p3, 0, none⟩) k k], .own 3 1 (.slice (some ⟨p1, 0, none⟩) k k) k ((Bk.rowF k (Bk.passes (Bk.arcsB t.bt d) (Bk.startS M) (k' + 1)).c).map I), .own 124 5 (.slice (some ⟨p3, 0, none⟩) k k) k (arcRow (Bk.rowF k (Bk.passes (Bk.arcsB t.bt d) (Bk.startS M) (k' + 1)).src))] : List Item))).symm)
            clear hS hK h1 S
            rw [← HA1.out]
            go_simp
            go_wp2_with fail
            refine ⟨Lib.hid ⟨k' + 1, by omega, D :: Ds, ⟨.bool true, .pointer (some ⟨B, 0, none⟩), .func (.func 96) #[.pointer (some ⟨B, 0, none⟩)] #[], I ((k' : Int) + 1), ?_⟩, S2⟩, ?_⟩
            · first | rfl | (rw [← HA0.out]; rfl)
            · first | (simp [intOf]; done) | (simp [intOf]; omega)
          case stop =>
            rintro D c pre W hD - h
            exact h.elim
        · have HKK := Lib.hid (show k' = k by omega)
          have HEE := Lib.hid (show Bk.passes (Bk.arcsB t.bt d) (Bk.startS M) k' = Bk.endB t.bt d by
            show _ = Bk.passes (Bk.arcsB t.bt d) (Bk.startS (t.ws.length + t.hs.length)) (t.ws.length + t.hs.length + 2)
            rw [HM.out, HKK.out, HNM.out])
          rw [HEE.out] at S
          have hsk : Bk.sinkB t.bt = M + 1 := by show t.ws.length + t.hs.length + 1 = M + 1; rw [HM.out]
          have hsp : Bk.springB t.bt = M := HM.out
          have hM1 : M + 1 < k := by have := HNM.out; omega
          have hcs := Bk.cost_at HSM.out h12 HF.out.div (show k' ≤ 13 by omega) (List.nil_prefix (l := Bk.arcsB t.bt d)) M (M + 1)
          rw [List.foldl_nil, HEE.out] at hcs
          have HPE := Lib.hid (show ∀ p, (Bk.endB t.bt d).c (M + 1) < Bk.farI → Bk.Chain (Bk.endB t.bt d).src M (M + 1) p → ∀ a ∈ p, a ∈ Bk.arcsB t.bt d from by
            intro p hlt hch
            obtain ⟨π, hP, hz⟩ := HF.out.pot
            have hD := Bk.end_done HSM.out hP
            exact (Bk.chain_cost hD.inv (show Bk.Chain _ (Bk.springB t.bt) _ _ by rw [hsp]; exact hch) hlt).2)
          have HTR := Lib.hid (show (Bk.endB t.bt d).c (M + 1) < Bk.farI → ∃ p, Bk.Chain (Bk.endB t.bt d).src M (M + 1) p ∧ p.length ≤ 13 from by
            intro hlt
            obtain ⟨π, hP, hz⟩ := HF.out.pot
            have hD := Bk.end_done HSM.out hP
            obtain ⟨p, hp⟩ := hD.inv.tree _ hlt
            rw [hsp] at hp
            refine ⟨p, hp, ?_⟩
            have hA := HPE.out p hlt hp
            have hkN : t.bt.nW + t.bt.nH + 2 = k := HN.out
            have := hp.short (n := k) hM1 (fun a ha => by rw [← hkN]; exact (Bk.arcs_lt HSM.out.ok a (hA a ha)).1)
            omega)
          have HSK := Lib.hid hsk
          have HSP := Lib.hid hsp
          obtain ⟨E, hE⟩ : ∃ E, Bk.endB t.bt d = E := ⟨_, rfl⟩
          rw [hE] at S HPE HTR hcs
          have HEQ := Lib.hid hE
          clear hE HEE hsk hsp
          have hfar : Bk.farI = 1152921504606846976 := rfl
          rw [hfar] at hcs
          clear hfar
          have hK1 : IntKind.i64.wrap ((k : Int) - 1) = ((M + 1 : Nat) : Int) := by have := HNM.out; rw [IntWalk.i64_in _ (by omega)]; omega
          have hM1i : ((M + 1 : Nat) : Int) < (k : Int) := by omega
          obtain ⟨M1, hMM⟩ : ∃ m, M + 1 = m := ⟨_, rfl⟩
          rw [hMM] at HSK hM1 hcs HPE HTR hK1 hM1i
          have HMM := Lib.hid hMM
          clear hMM
          have x5 := S.out.get 0 0 rfl rfl
          have ys := own_cell (S.out.own 2 rfl) M1 _ (Bk.rowF_at _ hM1)
          have hltk : ¬ (k' : Int) < (k : Int) := by have := HKK.out; omega
          by_cases hq : E.c M1 < 1152921504606846976
          · obtain ⟨p, hp, hp13⟩ := HTR.out hq
            have HP := Lib.hid hp
            have HPA := Lib.hid (HPE.out p hq hp)
            have S := Lib.hid (S.out.nil 124 5)
            clear hp
            have HLT2 := Lib.hid (fun (a : Bk.Arc) (ha : a ∈ p) => (Bk.arcs_lt HSM.out.ok a (HPA.out a ha)).1)
            have HKN := Lib.hid (show t.bt.nW + t.bt.nH + 2 = k from HN.out)
            go_wp2_with fail
            go_loopw [9, 10] (fun pv i wr => ∃ j : Nat, j ≤ p.length ∧ i = I ((nodeAt M1 p j : Nat) : Int) ∧ Hid (St w wr wr.heap.size (([.own 124 5 pv j (arcRow (p.take j)), .box b5 [.slice (some ⟨p1, 0, none⟩) k k], .box b6 [.slice (some ⟨p3, 0, none⟩) k k], .own 3 1 (.slice (some ⟨p1, 0, none⟩) k k) k ((Bk.rowF k E.c).map I), .own 124 5 (.slice (some ⟨p3, 0, none⟩) k k) k (arcRow (Bk.rowF k E.src))] : List Item) ++ Ds.map markI))) (fun pv _ _ => p.length - lenV pv)
            case atStart => exact ⟨0, by omega, by show _ = I ((M1 : Nat) : Int); first | rfl | (congr 1), S⟩
            case round =>
              clear S x5 ys
              obtain ⟨j, hj, rfl, S⟩ := hrel
              obtain ⟨Ap, cp, rfl⟩ := own_shape (S.out.own 0 rfl)
              have hvk := node_lt (n := k) hM1 (fun a ha => by have := HLT2.out a ha; rw [HKN.out] at this; exact this) j hj
              by_cases hjl : j < p.length
              · obtain ⟨hne, hpj⟩ := chain_step HP.out hjl
                have HNX := Lib.hid (nodeAt_succ M1 p hjl)
                obtain ⟨v, hv⟩ : ∃ v, nodeAt M1 p j = v := ⟨_, rfl⟩
                rw [hv] at hne hpj hvk ⊢
                have hvq : (((v : Nat) : Int) != (M : Int)) = true := by simp; omega
                have hvi : ((v : Nat) : Int) < (k : Int) := by omega
                have HPJ := Lib.hid hpj
                have HTK := Lib.hid (show arcRow (p.take (j + 1)) = arcRow (p.take j) ++ arcCells p[j] by rw [List.take_succ_eq_append_getElem hjl, arcRow_append]; rfl)
                obtain ⟨a, ha⟩ : ∃ a, p[j] = a := ⟨_, rfl⟩
                rw [ha] at HPJ HTK HNX
                have hrow : (Bk.rowF k E.src)[v]'(by rw [Bk.rowF_len]; exact hvk) = a := by rw [HPJ.out]; simp [Bk.rowF]
                obtain ⟨y0, y1, y2, y3, y4⟩ := S.out.arc 4 rfl (k := v) (by rw [Bk.rowF_len]; exact hvk)
                rw [hrow] at y0 y1 y2 y3 y4
                have x6 := S.out.get 2 0 rfl rfl
                have T := Lib.hid (S.out.alloc (arcCells a) 124)
                obtain ⟨j0, ki, kz0, kz1, kz2⟩ := info_parts (P := Tryz.prog) (e := 124) (z := .agg #[.int .i64 0, .int .i64 0, .int .i64 0, .int .i64 0, .int .i64 0]) (size := 5) (bytes := 40) (by kernel_rfl)
                have h02 : 0 < 5 := by omega
                have h63 : j + 1 ≤ maxLen := by simp only [maxLen]; omega
                have hby : (j + 1) * 40 ≤ 140737488355328 := by omega
                clear hne hpj ha hv
                go_wp2_with (at_builtin; refine wpList_append_St T.out 1 rfl _ _ 120 rfl 124 j0 (.agg #[.int .i64 0, .int .i64 0, .int .i64 0, .int .i64 0, .int .i64 0]) 5 40 Tryz.underlying120 ki kz0 kz1 kz2 rfl h02 rfl rfl _ 1 (arcCells a) rfl (T.out.boxReads 0 rfl rfl (by omega)) (arc_one a) h63 hby ?_; intro v5 w5 hS5; rw [← HTK.out] at hS5; have S := Lib.hid hS5.tail; clear hS5 T x6 y0 y1 y2 y3 y4; obtain ⟨y0, -, -, -, -⟩ := S.out.arc 4 rfl (k := v) (by rw [Bk.rowF_len]; exact hvk); rw [hrow] at y0; have x6 := S.out.get 2 0 rfl rfl; obtain ⟨A5, c5, rfl⟩ := own_shape (S.out.own 0 rfl))
                go_roundw
                case rel => exact ⟨j + 1, by omega, by rw [HNX.out], S⟩
                case measure => show p.length - (j + 1) < p.length - j; omega
              · obtain rfl : j = p.length := by omega
                have HLA := Lib.hid (chain_last HP.out)
                rw [HLA.out]
                have hvq : ((M : Int) != (M : Int)) = false := by simp
                have x5 := S.out.get 1 0 rfl rfl
                have ys := own_cell (S.out.own 3 rfl) M1 _ (Bk.rowF_at _ hM1)
                go_wp2_with fail
                refine wp_region_seg [] [0, 1, 2, 3, 4, 5, 6, 7] [] 8 (by kernel_rfl) (by kernel_rfl) ?_
                intro KQ hKQ wz hbz
                have S := Lib.hid (S.out.call hbz)
                clear hbz
                have x5 := cell_regrown (S.out.get 1 0 rfl rfl)
                have ys := cell_regrown (own_cell (S.out.own 3 rfl) M1 _ (Bk.rowF_at _ hM1))
                refine seg_last ?_
                simp only [opsAt, List.filterMap_cons, List.filterMap_nil, List.getElem?_toArray, List.getElem?_cons_succ, List.getElem?_cons_zero]
                show wpQuiet _ _ _ _ [_, _, _, _, _, _, _, _] _
                repeat (first | go_big_quiet_step (fail) | quiet_step (fail))
                refine wpQuiet_nil ?_
                go_simp
                refine hKQ _ _ ?_
                clear hKQ KQ x5 ys
                go_wp2_with fail
                refine leaves_marks [.own 124 5 (.slice Ap p.length cp) p.length (arcRow (p.take p.length)), .box b5 [.slice (some ⟨p1, 0, none⟩) k k], .box b6 [.slice (some ⟨p3, 0, none⟩) k k], .own 3 1 (.slice (some ⟨p1, 0, none⟩) k k) k ((Bk.rowF k E.c).map I), .own 124 5 (.slice (some ⟨p3, 0, none⟩) k k) k (arcRow (Bk.rowF k E.src))] (by simp [Item.cel]) Ds _ S.out fun w' h' => ?_
                refine ⟨.tuple #[.slice Ap p.length cp, I (E.c M1)], by simp [results, go_sem], .slice Ap p.length cp, p, by rw [HSK.out, HEQ.out], ?_, fun h => by rw [HSK.out, HSP.out, HEQ.out]; exact HP.out, h'.bel⟩
                have h9 := h'.own 0 rfl
                rwa [List.take_length] at h9
          · have S := Lib.hid (S.out.nil 124 5)
            have hq' : 1152921504606846976 ≤ E.c M1 := by omega
            clear hq
            go_wp2_with fail
            refine wp_region_seg [] [0, 1, 2, 3, 4, 5, 6, 7] [] 8 (by kernel_rfl) (by kernel_rfl) ?_
            intro KQ hKQ wz hbz
            have S := Lib.hid (S.out.call hbz)
            clear hbz
            have x5 := cell_regrown (S.out.get 1 0 rfl rfl)
            have ys := cell_regrown (own_cell (S.out.own 3 rfl) M1 _ (Bk.rowF_at _ hM1))
            refine seg_last ?_
            simp only [opsAt, List.filterMap_cons, List.filterMap_nil, List.getElem?_toArray, List.getElem?_cons_succ, List.getElem?_cons_zero]
            show wpQuiet _ _ _ _ [_, _, _, _, _, _, _, _] _
            repeat (first | go_big_quiet_step (fail) | quiet_step (fail))
            refine wpQuiet_nil ?_
            go_simp
            refine hKQ _ _ ?_
            clear hKQ KQ x5 ys
            go_wp2_with fail
            refine leaves_marks [.own 124 5 (.slice none 0 0) 0 [], .box b5 [.slice (some ⟨p1, 0, none⟩) k k], .box b6 [.slice (some ⟨p3, 0, none⟩) k k], .own 3 1 (.slice (some ⟨p1, 0, none⟩) k k) k ((Bk.rowF k E.c).map I), .own 124 5 (.slice (some ⟨p3, 0, none⟩) k k) k (arcRow (Bk.rowF k E.src))] (by simp [Item.cel]) Ds _ S.out fun w' h' => ?_
            refine ⟨.tuple #[.slice none 0 0, I (E.c M1)], by simp [results, go_sem], .slice none 0 0, [], by rw [HSK.out, HEQ.out], h'.own 0 rfl, fun h => absurd h (by rw [HSK.out, HEQ.out]; show ¬ E.c M1 < 1152921504606846976; omega), h'.bel⟩
end Go.Proofs.YtldcehhhndlhdaaGreatDoor
