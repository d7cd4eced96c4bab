/- append from whatever source; slices.Clone; a line in new memory (Copy, Freed). -/
import Derived.Test.YtbddaemekgflmaaW9
import Derived.Test.YtbddaemekgflmaaW12
import Derived.Test.YtbddaemekgflmaaSegT
import Derived.Maps.AppendAt
import Derived.Lib.LazyBuf
namespace Go.Proofs.Ytbddaemekgflmaa
open Go.RowKit Go.Sort

theorem run_append_nil' {P : Program} (w : World) (base : Nat) (t ty e : TypeId) (i : TypeInfo) (size : Nat) (ht : P.underlying t = some (.slice e)) (hi : P.info? e = some i)
    (v : Value) (n : Nat) (xs : List Value) (hown : w.ownsRow base e size v n xs) (c : Nat) : (Builtin.append_ #[t, t] ty #[v, .slice none 0 c]).run P w = .ok v w := by
  rcases hown.2 with ⟨rfl, rfl⟩ | ⟨g, cap, cur, rfl, _, _, hnc, _⟩
  · simp [Builtin.append_, run_underlying ht, sizeOf, typeInfo, hi, Builtin.lenOf, Builtin.firstCells]
  · simp [Builtin.append_, run_underlying ht, sizeOf, typeInfo, hi, Builtin.lenOf, Builtin.firstCells, hnc, storeCells]

theorem add_plain (b o j : Nat) : (⟨b, o, none⟩ : Addr).add j = ⟨b, o + j, none⟩ := by unfold Addr.add; split <;> simp_all

theorem run_append_src {P : Program} (w : World) (base : Nat) (t ty e : TypeId) (i : TypeInfo) (z : Value) (size bytes : Nat) (ht : P.underlying t = some (.slice e)) (hi : P.info? e = some i) (hz : i.zero = some z)
    (hsize : i.size = size) (hby : i.bytes = bytes) (hzs : z.cells.size = size) (hsz : 0 < size)
    (v : Value) (n : Nat) (xs : List Value) (hown : w.ownsRow base e size v n xs)
    (sv : Value) (m : Nat) (news : List Value) (hr : Reads w size sv m news) (h1 : ∀ u ∈ news, u.oneCell' = true)
    (h63 : n + m ≤ maxLen) (hbytes : (n + m) * bytes ≤ 140737488355328) (hbase : base ≤ w.heap.size) :
    ∃ v' w', (Builtin.append_ #[t, t] ty #[v, sv]).run P w = .ok v' w' ∧ w'.ownsRow base e size v' (n + m) (xs ++ news) ∧ w.grownBy w' v.ownBlock ∧
      (v'.ownBlock = v.ownBlock ∨ v'.ownBlock = some w.heap.size) := by
  obtain ⟨hl, A, c, rfl, hmc, _, hc⟩ := hr
  have hnil : m = 0 → news = [] := fun h => List.eq_nil_of_length_eq_zero (by rw [hl, h]; simp)
  rcases A with _ | ad
  · have hm : m = 0 := by
      rcases Nat.eq_zero_or_pos m with h0 | h0
      · exact h0
      · obtain ⟨b, o, h, _⟩ := hc h0
        cases h
    have hn := hnil hm
    subst hm
    subst hn
    exact ⟨v, w, run_append_nil' w base t ty e i size ht hi v n xs hown c, by simpa using hown, World.grownBy.refl w _, .inl rfl⟩
  · have hcells : ∀ j u, news[j]? = some u → w.cell? (ad.add j) = some u := by
      intro j u hu
      rcases Nat.eq_zero_or_pos m with h0 | h0
      · rw [hnil h0] at hu; simp at hu
      · obtain ⟨b, o, h, hc'⟩ := hc h0
        injection h with h
        subst h
        rw [add_plain]
        exact hc' j u hu
    obtain ⟨v', w', hrun, h2, h3, _, h5⟩ := run_append_own_at (P := P) w base t ty e i z size bytes ht hi hz hsize hby hzs hsz v n xs hown ad m c news hl hcells h1 h63 hbytes hbase
    exact ⟨v', w', hrun, h2, h3, h5⟩

theorem wp_append_src {P : Program} (w : World) {o : Oper} {a : Act} {K : Act → World → Prop} {Q : Exit → Act → World → Prop} (s x : Operand) (t : TypeId)
    (ho : o.op = .call { callee := .builtin .append, args := #[s, x], argTypes := #[t, t] })
    (base : Nat) (e : TypeId) (i : TypeInfo) (z : Value) (size bytes : Nat) (ht : P.underlying t = some (.slice e)) (hi : P.info? e = some i) (hz : i.zero = some z)
    (hsize : i.size = size) (hby : i.bytes = bytes) (hzs : z.cells.size = size) (hsz : 0 < size)
    (v : Value) (n : Nat) (xs : List Value) (hs : a.eval s = v) (hown : w.ownsRow base e size v n xs)
    (sv : Value) (m : Nat) (news : List Value) (hx : a.eval x = sv) (hr : Reads w size sv m news) (h1 : ∀ u ∈ news, u.oneCell' = true)
    (h63 : n + m ≤ maxLen) (hbytes : (n + m) * bytes ≤ 140737488355328) (hbase : base ≤ w.heap.size)
    (h : ∀ v' w', w'.ownsRow base e size v' (n + m) (xs ++ news) → w.grownBy w' v.ownBlock → (v'.ownBlock = v.ownBlock ∨ v'.ownBlock = some w.heap.size) → K (a.put o.dst v') w') : o.wp P a w K Q := by
  obtain ⟨v', w', hrun, h2, h3, h4⟩ := run_append_src (P := P) w base t o.type e i z size bytes ht hi hz hsize hby hzs hsz v n xs hown sv m news hr h1 h63 hbytes hbase
  unfold Oper.wp execOp
  simp only [ho, resolve, invoke, builtin, Sem.run_bind, Sem.run_pure, Result.andThen_ok, List.map_toArray, List.map_cons, List.map_nil, hs, hx, hrun]
  exact h v' w' h2 h3 h4

theorem wpList_append_src {P : Program} (w : World) {ops : Array Oper} {rest : List Oper} {o : Oper} {a : Act} {Q : Exit → Act → World → Prop} (hgd : o.guard = none) (s x : Operand) (t : TypeId)
    (ho : o.op = .call { callee := .builtin .append, args := #[s, x], argTypes := #[t, t] })
    (base : Nat) (e : TypeId) (i : TypeInfo) (z : Value) (size bytes : Nat) (ht : P.underlying t = some (.slice e)) (hi : P.info? e = some i) (hz : i.zero = some z)
    (hsize : i.size = size) (hby : i.bytes = bytes) (hzs : z.cells.size = size) (hsz : 0 < size)
    (v : Value) (n : Nat) (xs : List Value) (hs : a.eval s = v) (hown : w.ownsRow base e size v n xs)
    (sv : Value) (m : Nat) (news : List Value) (hx : a.eval x = sv) (hr : Reads w size sv m news) (h1 : ∀ u ∈ news, u.oneCell' = true)
    (h63 : n + m ≤ maxLen) (hbytes : (n + m) * bytes ≤ 140737488355328) (hbase : base ≤ w.heap.size)
    (h : ∀ v' w', w'.ownsRow base e size v' (n + m) (xs ++ news) → w.grownBy w' v.ownBlock → (v'.ownBlock = v.ownBlock ∨ v'.ownBlock = some w.heap.size) → wpList P ops Q rest (a.put o.dst v') w') : wpList P ops Q (o :: rest) a w :=
  wpList_plain hgd fun _ hK => wp_append_src w s x t ho base e i z size bytes ht hi hz hsize hby hzs hsz v n xs hs hown sv m news hx hr h1 h63 hbytes hbase fun v' w' h2 h3 h4 => hK _ _ (h v' w' h2 h3 h4)

/-- append onto an empty slice that was just made: nothing older is written. -/
theorem run_append_fresh {P : Program} (w : World) (base : Nat) (t ty e : TypeId) (i : TypeInfo) (z : Value) (size bytes : Nat) (ht : P.underlying t = some (.slice e)) (hi : P.info? e = some i) (hz : i.zero = some z)
    (hsize : i.size = size) (hby : i.bytes = bytes) (hzs : z.cells.size = size) (hsz : 0 < size)
    (g : Nat) (hg : w.heap[g]? = some (.cells #[] e (0, 0))) (hbg : base ≤ g)
    (sv : Value) (m : Nat) (news : List Value) (hr : Reads w size sv m news) (h1 : ∀ u ∈ news, u.oneCell' = true)
    (h63 : m ≤ maxLen) (hbytes : m * bytes ≤ 140737488355328) (hbase : base ≤ w.heap.size) :
    ∃ v' w', (Builtin.append_ #[t, t] ty #[.slice (some ⟨g, 0, none⟩) 0 0, sv]).run P w = .ok v' w' ∧ w'.ownsRow base e size v' m news ∧ Below w.heap.size w w' := by
  have hown : w.ownsRow base e size (.slice (some ⟨g, 0, none⟩) 0 0) 0 [] := ⟨by simp, .inr ⟨g, 0, #[], rfl, hbg, hg, by omega, by simp [maxLen], by simp, by simp⟩⟩
  obtain ⟨hl, A, c, rfl, hmc, _, hc⟩ := hr
  subst hsize
  subst hby
  have hsmall : m ≤ 9223372036854775807 := by simp only [maxLen] at h63; omega
  rcases Nat.eq_zero_or_pos m with h0 | h0
  · subst h0
    have hn : news = [] := List.eq_nil_of_length_eq_zero (by simpa using hl)
    subst hn
    rcases A with _ | ad
    · exact ⟨_, w, run_append_nil' w base t ty e i i.size ht hi _ 0 [] hown c, hown, Below.refl _ _⟩
    · have hrun := run_append_room (P := P) w t ty e i ht hi g 0 0 #[] hg ad 0 c [] (by simp) (by simp) (by simp) (by omega) (by simp)
      refine ⟨_, _, hrun, ⟨by simp, .inr ⟨g, 0, #[], rfl, hbg, ?_, by omega, by simp [maxLen], by simp, by simp⟩⟩, ⟨rfl, rfl, rfl, by simp, fun k hk => ?_⟩⟩
      · exact (setRow_heap w g #[] _ e _ hg).trans (by simp)
      · by_cases hkg : k = g
        · subst hkg
          rw [hg]
          exact (setRow_heap w k #[] _ e _ hg).trans (by simp)
        · exact setRow_other w g k _ (fun e => hkg (by simp [e]))
  · obtain ⟨b, o, rfl, hcell⟩ := hc h0
    have hnews : ∀ j u, news[j]? = some u → w.cell? ((⟨b, o, none⟩ : Addr).add j) = some u := fun j u hu => by rw [add_plain]; exact hcell j u hu
    have hrun := run_append_grow (P := P) w t ty e i z ht hi hz ⟨g, 0, none⟩ 0 0 [] hown.1 (hown.cells (g := g) rfl) ⟨b, o, none⟩ m c news hl hnews (by omega) (by omega) (growslice_fits (by omega) (by simpa using hbytes))
    have hge := grownCap_ge w (0 + m) 0 e
    have hcm : grownCap w (0 + m) 0 e ≤ maxLen := grownCap_le_maxLen w (0 + m) 0 e (by simpa using h63)
    refine ⟨_, _, hrun, ⟨hl, .inr ⟨w.heap.size, _, _, by simp only [Nat.zero_add], hbase, heap_alloc_new w.drew _, ?_, hcm, ?_, ?_⟩⟩, ⟨rfl, rfl, rfl, by simp, fun k hk => heap_alloc_old w.drew _ hk⟩⟩
    · simpa using hge
    · simp only [Array.size_append, List.size_toArray, size_zeroCells, hzs, hl, List.length_nil, Nat.zero_add, ← Nat.add_mul]
      congr 1
      simp at hge ⊢
      omega
    · simp only [Array.toList_append, List.nil_append, ← hl]
      exact List.take_left

theorem wp_append_fresh {P : Program} (w : World) {o : Oper} {a : Act} {K : Act → World → Prop} {Q : Exit → Act → World → Prop} (s x : Operand) (t : TypeId)
    (ho : o.op = .call { callee := .builtin .append, args := #[s, x], argTypes := #[t, t] })
    (base : Nat) (e : TypeId) (i : TypeInfo) (z : Value) (size bytes : Nat) (ht : P.underlying t = some (.slice e)) (hi : P.info? e = some i) (hz : i.zero = some z)
    (hsize : i.size = size) (hby : i.bytes = bytes) (hzs : z.cells.size = size) (hsz : 0 < size)
    (g : Nat) (hs : a.eval s = .slice (some ⟨g, 0, none⟩) 0 0) (hg : w.heap[g]? = some (.cells #[] e (0, 0))) (hbg : base ≤ g)
    (sv : Value) (m : Nat) (news : List Value) (hx : a.eval x = sv) (hr : Reads w size sv m news) (h1 : ∀ u ∈ news, u.oneCell' = true)
    (h63 : m ≤ maxLen) (hbytes : m * bytes ≤ 140737488355328) (hbase : base ≤ w.heap.size)
    (h : ∀ v' w', w'.ownsRow base e size v' m news → Below w.heap.size w w' → K (a.put o.dst v') w') : o.wp P a w K Q := by
  obtain ⟨v', w', hrun, h2, h3⟩ := run_append_fresh (P := P) w base t o.type e i z size bytes ht hi hz hsize hby hzs hsz g hg hbg sv m news hr h1 h63 hbytes hbase
  unfold Oper.wp execOp
  simp only [ho, resolve, invoke, builtin, Sem.run_bind, Sem.run_pure, Result.andThen_ok, List.map_toArray, List.map_cons, List.map_nil, hs, hx, hrun]
  exact h v' w' h2 h3

theorem Try.info36 : (Try.prog.info? 36).map (fun i => (i.zero, i.size, i.bytes)) = some (some (.agg #[.int .i64 0, .int .i64 0, .int .i64 0]), 3, 24) := by kernel_rfl
theorem one_I (n : Int) : (I n).oneCell' = true := rfl
theorem ints_one (xs : List Int) : ∀ u ∈ xs.map I, u.oneCell' = true := fun u hu => by
  obtain ⟨x, _, rfl⟩ := List.mem_map.1 hu
  rfl
theorem pts_one (ps : List Pt) : ∀ u ∈ ptCells ps, u.oneCell' = true := fun u hu => by
  obtain ⟨p, _, hu⟩ := List.mem_flatMap.1 hu
  simp [Pt.cells] at hu
  rcases hu with rfl | rfl | rfl <;> rfl
theorem Reads.of_own {w : World} {base e size : Nat} {v : Value} {n : Nat} {xs : List Value} (h : w.ownsRow base e size v n xs) : Reads w size v n xs := by
  refine ⟨h.1, ?_⟩
  rcases h.2 with ⟨rfl, h0⟩ | ⟨g, cap, cur, rfl, hb, hg, h1, h2, h3, h4⟩
  · exact ⟨none, 0, by rw [h0], by omega, by omega, fun h => by omega⟩
  · refine ⟨some ⟨g, 0, none⟩, cap, rfl, h1, h2, fun hn => ⟨g, 0, rfl, fun j u hu => ?_⟩⟩
    have := h.cells (g := g) rfl j u hu
    rwa [add_plain] at this
theorem grown_of_below {w w' : World} (hb : Below w.heap.size w w') (row : Option Nat) : w.grownBy w' row := ⟨hb.os, hb.tape, hb.output, hb.size, fun k hk _ => hb.block k hk⟩
theorem own_below {w w' : World} {base e size n : Nat} {v : Value} {xs : List Value} (h : w.ownsRow base e size v n xs) (hb : Below w.heap.size w w') : w'.ownsRow base e size v n xs := h.kept (grown_of_below hb none) (by rcases hq : v.ownBlock with _ | q <;> simp)

theorem own_base' {w : World} {B B' e size n : Nat} {v : Value} {xs : List Value} (h : w.ownsRow B' e size v n xs) (hB : B ≤ B') : w.ownsRow B e size v n xs :=
  ⟨h.1, h.2.imp id (fun ⟨g, cap, cur, a, b, c⟩ => ⟨g, cap, cur, a, Nat.le_trans hB b, c⟩)⟩
theorem own_setCell {W : World} {base e size n : Nat} {v : Value} {xs : List Value} (h : W.ownsRow base e size v n xs) (q : Addr) (u : Value) (hq : q.block < base) : (W.setCell q u).ownsRow base e size v n xs :=
  h.kept (row := some q.block) ⟨rfl, rfl, rfl, by simp, fun k _ hk => Below.heap_setCell _ _ _ k (fun e => hk (by rw [e]))⟩ (.inr fun e => by have := h.lt _ e; omega)
theorem own_shape {w : World} {B e size n : Nat} {v : Value} {xs : List Value} (h : w.ownsRow B e size v n xs) : ∃ A c, v = .slice A n c := by
  rcases h.2 with ⟨rfl, rfl⟩ | ⟨g, cap, cur, rfl, _⟩
  · exact ⟨_, _, rfl⟩
  · exact ⟨_, _, rfl⟩
/-- A line in memory that the call has made. -/
def OwnLine (w : World) (base : Nat) (v : Value) (d : DLine) : Prop := ∃ pv ov, v = .agg #[pv, ov] ∧ w.ownsRow base 36 3 pv d.pts.length (ptCells d.pts) ∧ w.ownsRow base 3 1 ov d.odds.length (d.odds.map I)
theorem OwnLine.line {w : World} {base : Nat} {v : Value} {d : DLine} (h : OwnLine w base v d) : LineAt w v d := by
  obtain ⟨pv, ov, rfl, hp, ho⟩ := h
  exact ⟨pv, ov, rfl, Reads.of_own hp, Reads.of_own ho⟩
theorem OwnLine.below {w w' : World} {base : Nat} {v : Value} {d : DLine} (h : OwnLine w base v d) (hb : Below w.heap.size w w') : OwnLine w' base v d := by
  obtain ⟨pv, ov, rfl, hp, ho⟩ := h
  exact ⟨pv, ov, rfl, own_below hp hb, own_below ho hb⟩

set_option maxRecDepth 20000 in
set_option maxHeartbeats 1000000 in
theorem clone_any (v : Value) (ps : List Pt) (w : World) (hv : Pts w v ps) (hlen : ps.length ≤ 1000) :
    Calls Try.prog 63 #[v] w fun e w' => ∃ v', e = .returned v' ∧ w'.ownsRow w.heap.size 36 3 v' ps.length (ptCells ps) ∧ Below w.heap.size w w' := by
  obtain ⟨i0, hi, hz0, hz1, hz2⟩ := info_parts Try.info36
  have h02 : 0 < 3 := by omega
  have h63 : 0 + ps.length ≤ maxLen := by simp only [maxLen]; omega
  have hby : (0 + ps.length) * 24 ≤ 140737488355328 := by omega
  have HV := Lib.hid hv
  have hm0 : (0 : Nat) ≤ maxLen := by omega
  have hown := World.ownsRow_made (e := 36) (size := 3) w #[] 0 (Nat.le_refl w.heap.size) hm0 rfl
  have hb0 : Below w.heap.size w (w.alloc (.cells #[] 36)) := (Below.refl _ _).alloc (Nat.le_refl _) _
  have hs0 := hb0.size
  obtain ⟨_, A, c, rfl, hmc, hc, hcell⟩ := hv
  rcases A with _ | ad
  · have hp : ps = [] := by
      rcases Nat.eq_zero_or_pos ps.length with h0 | h0
      · exact List.eq_nil_of_length_eq_zero h0
      · obtain ⟨b, o, h, _⟩ := hcell h0
        cases h
    subst hp
    clear hcell
    have hq := fun w => run_eql_slice_nil (P := Try.prog) w 22 36 none 0 c Try.underlying22
    go_enter Try.func63, Try.ntmps63
    go_wp2_with fail
    go_ret
    exact ⟨_, rfl, World.ownsRow_nil _ _ _ _, Below.refl _ _⟩
  · clear hcell
    have hq := fun w => run_eql_slice_nil (P := Try.prog) w 22 36 (some ad) ps.length c Try.underlying22
    go_enter Try.func63, Try.ntmps63
    go_wp2_with (at_builtin; refine wpList_append_src _ rfl _ _ 22 rfl w.heap.size 36 i0 (.agg #[.int .i64 0, .int .i64 0, .int .i64 0]) 3 24 Try.underlying22 hi hz0 hz1 hz2 rfl h02 _ _ _ rfl hown _ _ _ rfl (Reads.below HV.out hb0) (pts_one _) h63 hby hs0 ?_; intro v' w4 hown' hgrow _)
    go_ret
    rw [Nat.zero_add, List.nil_append] at hown'
    exact ⟨_, rfl, hown', hb0.grown hgrow hs0 (fun q hq => (hown.lt q hq).1)⟩

set_option maxRecDepth 20000 in
set_option maxHeartbeats 2000000 in
theorem copy_any (v : Value) (d : DLine) (w : World) (hv : LineAt w v d) (hlen : d.odds.length ≤ 1000) (hlen' : d.pts.length ≤ 1000) :
    Calls Try.prog 19 #[v] w fun e w' => ∃ v', e = .returned v' ∧ OwnLine w' w.heap.size v' d ∧ Below w.heap.size w w' := by
  obtain ⟨pv, ov, rfl, hp, ho⟩ := hv
  obtain ⟨iP, hiP, hiP0, hiP1, hiP2⟩ := info_parts Try.info36
  obtain ⟨iO, hiO, hiO0, hiO1, hiO2⟩ := info_parts Try.info3
  have hiP3 : 0 < 3 := by omega
  have hiO3 : 0 < 1 := by omega
  have hiP4 : d.pts.length ≤ maxLen := by simp only [maxLen]; omega
  have hiP5 : d.pts.length * 24 ≤ 140737488355328 := by omega
  have hiO4 : d.odds.length ≤ maxLen := by simp only [maxLen]; omega
  have hiO5 : d.odds.length * 8 ≤ 140737488355328 := by omega
  have hb0 : ∀ x y, Below w.heap.size w ((w.alloc x).alloc y) := fun x y => ((Below.refl _ _).alloc (Nat.le_refl _) _).alloc (by simp) _
  have B0 := (Box2.new w pv ov 25).old (.cells #[.slice none 0 0, .slice none 0 0] 25)
  have B1 := (Box2.new (w.alloc (.cells #[pv, ov] 25)) (.slice none 0 0) (.slice none 0 0) 25).at_ (show _ = w.heap.size + 1 by simp)
  go_enter Try.func19, Try.ntmps19
  go_wp2_with fail
  refine wp_region_tree (.node [1, 2, 5, 6] [0, 4] fun l => if l = 0 then .node [] [3, 4] (fun l => if l = 3 then .node [] [4] (fun _ => .node [] [7] fun _ => .node [] [8] fun _ => .last [] [9]) else .node [] [3] (fun _ => .node [] [7] fun _ => .node [] [8] fun _ => .last [] [9])) else .node [] [0] (fun _ => .node [] [3] fun _ => .node [] [7] fun _ => .node [] [8] fun _ => .last [] [9])) 9 (by kernel_rfl) (by kernel_rfl) ?_
  intro KQ hKQ w1 hb1
  have B0 := B0.keep hb1
  have B1 := B1.keep hb1
  have k0 := cell_regrown B0.c0
  have k1 := cell_regrown B0.c1
  refine tree_node ?_
  simp only [opsAt, List.filterMap_cons, List.filterMap_nil, List.getElem?_toArray, List.getElem?_cons_succ, List.getElem?_cons_zero]
  repeat (first | go_big_quiet_step (fail) | quiet_step (fail))
  refine wpQuiet_nil ?_
  have hbw : Below w.heap.size w w1 := bto (hb0 _ _) hb1
  have hlt : w.heap.size + 1 < w1.heap.size := B1.lt
  have c1 := Below.refl w1.heap.size w1
  clear k0 k1 B0
  refine all_two ?_ ?_
  · intro K hK
    refine loud_op rfl rfl ?_
    go_simp
    have hst : Below w1.heap.size w1 (w1.alloc (.cells #[] 36)) := (Below.refl _ _).alloc (Nat.le_refl _) _
    refine hK _ _ hst ?_
    have hgP : (w1.alloc (.cells #[] 36)).heap[w1.heap.size]? = some (.cells #[] 36 (0, 0)) := heap_alloc_new w1 _
    have hbP : w1.heap.size ≤ w1.heap.size := c1.size
    have hlP : w1.heap.size < (w1.alloc (.cells #[] 36)).heap.size := by simp
    obtain ⟨v2, hv2⟩ : ∃ y, w1.alloc (.cells #[] 36) = y := ⟨_, rfl⟩
    rw [hv2] at hst hgP hlP ⊢
    clear hv2 hK K
    have B1 := B1.keep hst
    have cv2 := bto c1 hst
    clear hst
    refine tree_node ?_
    simp only [opsAt, List.filterMap_nil]
    refine wpQuiet_nil ?_
    refine all_two ?_ ?_
    · intro K hK
      refine loud_op rfl rfl ?_
      refine wp_append_fresh _ _ _ 22 rfl w1.heap.size 36 iP (.agg #[.int .i64 0, .int .i64 0, .int .i64 0]) 3 24 Try.underlying22 hiP hiP0 hiP1 hiP2 rfl hiP3 _ rfl hgP hbP _ _ _ rfl (Reads.below hp (bto hbw cv2)) (pts_one _) hiP4 hiP5 cv2.size ?_
      intro rP v3 ownP hst
      go_simp
      refine hK _ _ hst ?_
      clear hK K
      have B1 := B1.keep hst
      have cv3 := bto cv2 hst
      have hgP := (hst.block _ hlP).trans hgP
      have hlP := Nat.lt_of_lt_of_le hlP hst.size
      clear hst
      refine tree_node ?_
      simp only [opsAt, List.filterMap_nil]
      refine wpQuiet_nil ?_
      refine all_one ?_
      intro K hK
      refine loud_op rfl rfl ?_
      go_simp
      have hst : Below v3.heap.size v3 (v3.alloc (.cells #[] 3)) := (Below.refl _ _).alloc (Nat.le_refl _) _
      refine hK _ _ hst ?_
      have hgO : (v3.alloc (.cells #[] 3)).heap[v3.heap.size]? = some (.cells #[] 3 (0, 0)) := heap_alloc_new v3 _
      have hbO : w1.heap.size ≤ v3.heap.size := cv3.size
      have hlO : v3.heap.size < (v3.alloc (.cells #[] 3)).heap.size := by simp
      obtain ⟨v4, hv4⟩ : ∃ y, v3.alloc (.cells #[] 3) = y := ⟨_, rfl⟩
      rw [hv4] at hst hgO hlO ⊢
      clear hv4 hK K
      have B1 := B1.keep hst
      have cv4 := bto cv3 hst
      have ownP := own_below ownP hst
      clear hst
      refine tree_node ?_
      simp only [opsAt, List.filterMap_nil]
      refine wpQuiet_nil ?_
      refine all_one ?_
      intro K hK
      refine loud_op rfl rfl ?_
      refine wp_append_fresh _ _ _ 23 rfl w1.heap.size 3 iO (.int .i64 0) 1 8 Try.underlying23 hiO hiO0 hiO1 hiO2 rfl hiO3 _ rfl hgO hbO _ _ _ rfl (Reads.below ho (bto hbw cv4)) (ints_one _) hiO4 hiO5 cv4.size ?_
      intro rO v5 ownO hst
      go_simp
      refine hK _ _ hst ?_
      clear hK K
      have B1 := B1.keep hst
      have cv5 := bto cv4 hst
      have ownP := own_below ownP hst
      have hgO := (hst.block _ hlO).trans hgO
      have hlO := Nat.lt_of_lt_of_le hlO hst.size
      clear hst
      refine tree_node ?_
      simp only [opsAt, List.filterMap_nil]
      refine wpQuiet_nil ?_
      refine all_one ?_
      obtain ⟨aP, cP, rfl⟩ := own_shape ownP
      obtain ⟨aO, cO, rfl⟩ := own_shape ownO
      intro K hK
      refine loud_op rfl rfl ?_
      go_simp
      refine hK _ _ (Below.refl _ _) ?_
      clear hK K
      refine tree_last ?_
      simp only [opsAt, List.filterMap_nil, List.filterMap_cons, List.getElem?_toArray, List.getElem?_cons_succ, List.getElem?_cons_zero]
      refine wpQuiet_nil ?_
      obtain ⟨x0, x1, x2, x3⟩ := B1
      obtain ⟨r1, r2⟩ := res2 x0 x1
      go_wp2_with fail
      refine bodyPost_ret (v := .agg #[.slice aP d.pts.length cP, .slice aO d.odds.length cO]) (by simp [results, Try.results19, go_sem, r1, r2]) rfl ⟨_, rfl, ⟨_, _, rfl, own_base' (own_setCell (own_setCell ownP _ _ hlt) _ _ hlt) hbw.size, own_base' (own_setCell (own_setCell ownO _ _ hlt) _ _ hlt) hbw.size⟩, ?_⟩
      exact ((bto hbw cv5).setCell (p := ⟨w.heap.size + 1, 0, none⟩) (by simp) _).setCell (p := ⟨w.heap.size + 1, 1, none⟩) (by simp) _
    · intro K hK
      refine loud_op rfl rfl ?_
      go_simp
      have hst : Below v2.heap.size v2 (v2.alloc (.cells #[] 3)) := (Below.refl _ _).alloc (Nat.le_refl _) _
      refine hK _ _ hst ?_
      have hgO : (v2.alloc (.cells #[] 3)).heap[v2.heap.size]? = some (.cells #[] 3 (0, 0)) := heap_alloc_new v2 _
      have hbO : w1.heap.size ≤ v2.heap.size := cv2.size
      have hlO : v2.heap.size < (v2.alloc (.cells #[] 3)).heap.size := by simp
      obtain ⟨v3, hv3⟩ : ∃ y, v2.alloc (.cells #[] 3) = y := ⟨_, rfl⟩
      rw [hv3] at hst hgO hlO ⊢
      clear hv3 hK K
      have B1 := B1.keep hst
      have cv3 := bto cv2 hst
      have hgP := (hst.block _ hlP).trans hgP
      have hlP := Nat.lt_of_lt_of_le hlP hst.size
      clear hst
      refine tree_node ?_
      simp only [opsAt, List.filterMap_nil]
      refine wpQuiet_nil ?_
      refine all_one ?_
      intro K hK
      refine loud_op rfl rfl ?_
      refine wp_append_fresh _ _ _ 22 rfl w1.heap.size 36 iP (.agg #[.int .i64 0, .int .i64 0, .int .i64 0]) 3 24 Try.underlying22 hiP hiP0 hiP1 hiP2 rfl hiP3 _ rfl hgP hbP _ _ _ rfl (Reads.below hp (bto hbw cv3)) (pts_one _) hiP4 hiP5 cv3.size ?_
      intro rP v4 ownP hst
      go_simp
      refine hK _ _ hst ?_
      clear hK K
      have B1 := B1.keep hst
      have cv4 := bto cv3 hst
      have hgP := (hst.block _ hlP).trans hgP
      have hlP := Nat.lt_of_lt_of_le hlP hst.size
      have hgO := (hst.block _ hlO).trans hgO
      have hlO := Nat.lt_of_lt_of_le hlO hst.size
      clear hst
      refine tree_node ?_
      simp only [opsAt, List.filterMap_nil]
      refine wpQuiet_nil ?_
      refine all_one ?_
      intro K hK
      refine loud_op rfl rfl ?_
      refine wp_append_fresh _ _ _ 23 rfl w1.heap.size 3 iO (.int .i64 0) 1 8 Try.underlying23 hiO hiO0 hiO1 hiO2 rfl hiO3 _ rfl hgO hbO _ _ _ rfl (Reads.below ho (bto hbw cv4)) (ints_one _) hiO4 hiO5 cv4.size ?_
      intro rO v5 ownO hst
      go_simp
      refine hK _ _ hst ?_
      clear hK K
      have B1 := B1.keep hst
      have cv5 := bto cv4 hst
      have hgO := (hst.block _ hlO).trans hgO
      have hlO := Nat.lt_of_lt_of_le hlO hst.size
      have ownP := own_below ownP hst
      clear hst
      refine tree_node ?_
      simp only [opsAt, List.filterMap_nil]
      refine wpQuiet_nil ?_
      refine all_one ?_
      obtain ⟨aP, cP, rfl⟩ := own_shape ownP
      obtain ⟨aO, cO, rfl⟩ := own_shape ownO
      intro K hK
      refine loud_op rfl rfl ?_
      go_simp
      refine hK _ _ (Below.refl _ _) ?_
      clear hK K
      refine tree_last ?_
      simp only [opsAt, List.filterMap_nil, List.filterMap_cons, List.getElem?_toArray, List.getElem?_cons_succ, List.getElem?_cons_zero]
      refine wpQuiet_nil ?_
      obtain ⟨x0, x1, x2, x3⟩ := B1
      obtain ⟨r1, r2⟩ := res2 x0 x1
      go_wp2_with fail
      refine bodyPost_ret (v := .agg #[.slice aP d.pts.length cP, .slice aO d.odds.length cO]) (by simp [results, Try.results19, go_sem, r1, r2]) rfl ⟨_, rfl, ⟨_, _, rfl, own_base' (own_setCell (own_setCell ownP _ _ hlt) _ _ hlt) hbw.size, own_base' (own_setCell (own_setCell ownO _ _ hlt) _ _ hlt) hbw.size⟩, ?_⟩
      exact ((bto hbw cv5).setCell (p := ⟨w.heap.size + 1, 0, none⟩) (by simp) _).setCell (p := ⟨w.heap.size + 1, 1, none⟩) (by simp) _
  · intro K hK
    refine loud_op rfl rfl ?_
    go_simp
    have hst : Below w1.heap.size w1 (w1.alloc (.cells #[] 3)) := (Below.refl _ _).alloc (Nat.le_refl _) _
    refine hK _ _ hst ?_
    have hgO : (w1.alloc (.cells #[] 3)).heap[w1.heap.size]? = some (.cells #[] 3 (0, 0)) := heap_alloc_new w1 _
    have hbO : w1.heap.size ≤ w1.heap.size := c1.size
    have hlO : w1.heap.size < (w1.alloc (.cells #[] 3)).heap.size := by simp
    obtain ⟨v2, hv2⟩ : ∃ y, w1.alloc (.cells #[] 3) = y := ⟨_, rfl⟩
    rw [hv2] at hst hgO hlO ⊢
    clear hv2 hK K
    have B1 := B1.keep hst
    have cv2 := bto c1 hst
    clear hst
    refine tree_node ?_
    simp only [opsAt, List.filterMap_nil]
    refine wpQuiet_nil ?_
    refine all_one ?_
    intro K hK
    refine loud_op rfl rfl ?_
    go_simp
    have hst : Below v2.heap.size v2 (v2.alloc (.cells #[] 36)) := (Below.refl _ _).alloc (Nat.le_refl _) _
    refine hK _ _ hst ?_
    have hgP : (v2.alloc (.cells #[] 36)).heap[v2.heap.size]? = some (.cells #[] 36 (0, 0)) := heap_alloc_new v2 _
    have hbP : w1.heap.size ≤ v2.heap.size := cv2.size
    have hlP : v2.heap.size < (v2.alloc (.cells #[] 36)).heap.size := by simp
    obtain ⟨v3, hv3⟩ : ∃ y, v2.alloc (.cells #[] 36) = y := ⟨_, rfl⟩
    rw [hv3] at hst hgP hlP ⊢
    clear hv3 hK K
    have B1 := B1.keep hst
    have cv3 := bto cv2 hst
    have hgO := (hst.block _ hlO).trans hgO
    have hlO := Nat.lt_of_lt_of_le hlO hst.size
    clear hst
    refine tree_node ?_
    simp only [opsAt, List.filterMap_nil]
    refine wpQuiet_nil ?_
    refine all_one ?_
    intro K hK
    refine loud_op rfl rfl ?_
    refine wp_append_fresh _ _ _ 22 rfl w1.heap.size 36 iP (.agg #[.int .i64 0, .int .i64 0, .int .i64 0]) 3 24 Try.underlying22 hiP hiP0 hiP1 hiP2 rfl hiP3 _ rfl hgP hbP _ _ _ rfl (Reads.below hp (bto hbw cv3)) (pts_one _) hiP4 hiP5 cv3.size ?_
    intro rP v4 ownP hst
    go_simp
    refine hK _ _ hst ?_
    clear hK K
    have B1 := B1.keep hst
    have cv4 := bto cv3 hst
    have hgO := (hst.block _ hlO).trans hgO
    have hlO := Nat.lt_of_lt_of_le hlO hst.size
    have hgP := (hst.block _ hlP).trans hgP
    have hlP := Nat.lt_of_lt_of_le hlP hst.size
    clear hst
    refine tree_node ?_
    simp only [opsAt, List.filterMap_nil]
    refine wpQuiet_nil ?_
    refine all_one ?_
    intro K hK
    refine loud_op rfl rfl ?_
    refine wp_append_fresh _ _ _ 23 rfl w1.heap.size 3 iO (.int .i64 0) 1 8 Try.underlying23 hiO hiO0 hiO1 hiO2 rfl hiO3 _ rfl hgO hbO _ _ _ rfl (Reads.below ho (bto hbw cv4)) (ints_one _) hiO4 hiO5 cv4.size ?_
    intro rO v5 ownO hst
    go_simp
    refine hK _ _ hst ?_
    clear hK K
    have B1 := B1.keep hst
    have cv5 := bto cv4 hst
    have hgO := (hst.block _ hlO).trans hgO
    have hlO := Nat.lt_of_lt_of_le hlO hst.size
    have ownP := own_below ownP hst
    clear hst
    refine tree_node ?_
    simp only [opsAt, List.filterMap_nil]
    refine wpQuiet_nil ?_
    refine all_one ?_
    obtain ⟨aP, cP, rfl⟩ := own_shape ownP
    obtain ⟨aO, cO, rfl⟩ := own_shape ownO
    intro K hK
    refine loud_op rfl rfl ?_
    go_simp
    refine hK _ _ (Below.refl _ _) ?_
    clear hK K
    refine tree_last ?_
    simp only [opsAt, List.filterMap_nil, List.filterMap_cons, List.getElem?_toArray, List.getElem?_cons_succ, List.getElem?_cons_zero]
    refine wpQuiet_nil ?_
    obtain ⟨x0, x1, x2, x3⟩ := B1
    obtain ⟨r1, r2⟩ := res2 x0 x1
    go_wp2_with fail
    refine bodyPost_ret (v := .agg #[.slice aP d.pts.length cP, .slice aO d.odds.length cO]) (by simp [results, Try.results19, go_sem, r1, r2]) rfl ⟨_, rfl, ⟨_, _, rfl, own_base' (own_setCell (own_setCell ownP _ _ hlt) _ _ hlt) hbw.size, own_base' (own_setCell (own_setCell ownO _ _ hlt) _ _ hlt) hbw.size⟩, ?_⟩
    exact ((bto hbw cv5).setCell (p := ⟨w.heap.size + 1, 0, none⟩) (by simp) _).setCell (p := ⟨w.heap.size + 1, 1, none⟩) (by simp) _
end Go.Proofs.Ytbddaemekgflmaa
