/- A round of a worker's loop, in company, in the view. Conditions: none. -/
import Derived.Test.YtpolipcicfjkiaaK17
namespace Go.Proofs.Ytpolipcicfjkiaa.Cy
open Go Go.Conc Go.RowKit Go.Proofs

def rfParts : Code → Option (Array Tmp × Code × Code)
  | .seq a b => match rfParts a with | some x => some x | none => rfParts b
  | .block _ c => rfParts c
  | .rangeFunc _ ps x y => some (ps, x, y)
  | _ => none
def asgOf (f : Func) : Code := match f.body.bind rfParts with | some (_, x, _) => x | none => .skip
def bodyOf (f : Func) : Code := match f.body.bind rfParts with | some (_, _, y) => y | none => .skip
def recOf (f : Func) (tm : Array Value) (Dk : Nat) : Loop := { state := .ready, pending := none, fn := 47, tmps := tm, params := #[10, 11], assign := asgOf f, body := bodyOf f, defers := Dk }

theorem rbs60 (a b c : Int) (w : World) : (Instr.buildSlice 60 1 #[(0, .agg #[.int .i64 a, .int .i64 b, .int .i64 c])]).run PA.prog w = .ok (.slice (some ⟨w.heap.size, 0, none⟩) 1 1) (w.alloc (.cells #[.int .i64 a, .int .i64 b, .int .i64 c] 70)) := by
  kernel_rfl
theorem ebs60 (a b c : Int) (w : World) (es : Array Event) : (Instr.buildSlice 60 1 #[(0, .agg #[.int .i64 a, .int .i64 b, .int .i64 c])]).events PA.prog w es = es := by kernel_rfl

/-- What is held in a round: the loop's record and the rest, the day's box, what else stands. -/
structure JR (l : Nat) (r : Loop) (sb ob onb : Nat) (s : Int) (fnv : Value) (fro : Nat × Nat) (v : Value) (n : Nat) (xs : List Value) (tb : Nat) (to : Obj) (S : List (Nat × Obj)) (w : World) : Prop where
  jl : JL l r sb ob onb s fnv fro v n xs w
  bx : w.heap[tb]? = some to
  kp : Keep S w
section
variable {l : Nat} {r : Loop} {sb ob onb : Nat} {s : Int} {fnv : Value} {fro : Nat × Nat} {v : Value} {n : Nat} {xs : List Value} {tb : Nat} {to : Obj} {S : List (Nat × Obj)} {w w₁ : World}
theorem JR.rely (h : JR l r sb ob onb s fnv fro v n xs tb to S w) (e : Env w w₁) : JR l r sb ob onb s fnv fro v n xs tb to S w₁ := ⟨h.jl.rely e, env_at e h.bx, h.kp.rely e⟩
/-- The day's box is none of the others. -/
structure Apart (l sb ob onb : Nat) (v : Value) (tb : Nat) (S : List (Nat × Obj)) : Prop where
  five : ∀ b, (b = l ∨ b = sb ∨ b = onb ∨ b = ob ∨ v.ownBlock = some b) → b ≠ tb
  keep : ∀ p ∈ S, p.1 ≠ tb
theorem JR.setBox (h : JR l r sb ob onb s fnv fro v n xs tb to S w) (ap : Apart l sb ob onb v tb S) {c : Array Value} {e : TypeId} {fr : Nat × Nat} (hto : to = .cells c e fr) (i : Nat) (x : Value) : JR l r sb ob onb s fnv fro v n xs tb (.cells (c.setIfInBounds i x) e fr) S (w.setCell ⟨tb, i, none⟩ x) :=
  ⟨h.jl.set ap.five, set_blk (hto ▸ h.bx), h.kp.set_ne ap.keep⟩
theorem JR.setSum (h : JR l r sb ob onb s fnv fro v n xs tb to S w) (ap : Apart l sb ob onb v tb S) (x : Int) : JR l r sb ob onb x fnv fro v n xs tb to S (w.setCell ⟨sb, 0, none⟩ (.int .i64 x)) := by
  have hne : ∀ (b : Nat) (o : Obj), w.heap[b]? = some o → (∀ c fr, o ≠ .cells c 3 fr) → b ≠ sb := fun b o hb ho e => by rw [e, h.jl.sm] at hb; cases hb; exact ho _ _ rfl
  refine ⟨⟨heap_set_ne h.jl.lp (hne _ _ h.jl.lp (by intro _ _ e; cases e)), set_blk h.jl.sm, heap_set_ne h.jl.one (hne _ _ h.jl.one (by intro _ _ e; cases e)), heap_set_ne h.jl.out (hne _ _ h.jl.out (by intro _ _ e; cases e)), ?_⟩, heap_set_ne h.bx fun e => ap.five sb (.inr (.inl rfl)) e.symm, h.kp.set h.jl.sm (.inl rfl)⟩
  refine ownsRow_of h.jl.row fun g o hg ho => ?_
  obtain ⟨c, hc⟩ := ownsRow_blk h.jl.row hg
  rw [hc] at ho; cases ho
  exact heap_set_ne hc (hne _ _ hc (by intro _ _ e; cases e))
end

theorem JL.low {l : Nat} {r : Loop} {sb ob onb : Nat} {s : Int} {fnv : Value} {fro : Nat × Nat} {v : Value} {n : Nat} {xs : List Value} {w : World} (h : JL l r sb ob onb s fnv fro v n xs w) : ∀ b, (b = l ∨ b = sb ∨ b = onb ∨ b = ob ∨ v.ownBlock = some b) → b < w.heap.size := by
  have lt : ∀ {b : Nat} {o : Obj}, w.heap[b]? = some o → b < w.heap.size := fun h => (Array.getElem?_eq_some_iff.1 h).1
  rintro b (rfl | rfl | rfl | rfl | hb)
  · exact lt h.lp
  · exact lt h.sm
  · exact lt h.one
  · exact lt h.out
  · exact (ownsRow_blk h.row hb).elim fun c hc => lt hc

theorem JR.putLoop {l : Nat} {r : Loop} {sb ob onb : Nat} {s : Int} {fnv : Value} {fro : Nat × Nat} {v : Value} {n : Nat} {xs : List Value} {tb : Nat} {to : Obj} {S : List (Nat × Obj)} {w : World} (h : JR l r sb ob onb s fnv fro v n xs tb to S w) (ap : Apart l sb ob onb v tb S) (r' : Loop) : JR l r' sb ob onb s fnv fro v n xs tb to S (w.putObj l (.loop r')) :=
  ⟨h.jl.putLoop r', by rw [World.putObj_heap_other (fun e => ap.five l (.inl rfl) e.symm)]; exact h.bx, h.kp.putLoop h.jl.lp⟩

/-- Behind the append: the new row beside the old variable. -/
structure JA (l : Nat) (r : Loop) (sb ob onb : Nat) (s : Int) (fnv : Value) (fro : Nat × Nat) (v v' : Value) (n : Nat) (xs : List Value) (tb : Nat) (to : Obj) (S : List (Nat × Obj)) (w : World) : Prop where
  lp : w.heap[l]? = some (.loop r)
  sm : w.heap[sb]? = some (.cells #[.int .i64 s] 3)
  one : w.heap[onb]? = some (.cells #[.pointer (some ⟨ob, 0, none⟩), fnv] 90 fro)
  out : w.heap[ob]? = some (.cells #[v] 60)
  row : w.ownsRow 0 70 3 v' n xs
  bx : w.heap[tb]? = some to
  kp : Keep S w
section
variable {l : Nat} {r : Loop} {sb ob onb : Nat} {s : Int} {fnv : Value} {fro : Nat × Nat} {v v' : Value} {n : Nat} {xs : List Value} {tb : Nat} {c : Array Value} {S : List (Nat × Obj)} {w w₁ : World}
theorem JA.rely {to : Obj} (h : JA l r sb ob onb s fnv fro v v' n xs tb to S w) (e : Env w w₁) : JA l r sb ob onb s fnv fro v v' n xs tb to S w₁ :=
  ⟨env_at e h.lp, env_at e h.sm, env_at e h.one, env_at e h.out, ownsRow_of h.row fun _g _o _ ho => env_at e ho, env_at e h.bx, h.kp.rely e⟩
theorem JA.stored (h : JA l r sb ob onb s fnv fro v v' n xs tb (.cells c 70) S w) : JL l r sb ob onb s fnv fro v' n xs (w.setCell ⟨ob, 0, none⟩ v') ∧ (w.setCell ⟨ob, 0, none⟩ v').heap[tb]? = some (.cells c 70) ∧ Keep S (w.setCell ⟨ob, 0, none⟩ v') := by
  have hne : ∀ (b : Nat) (o : Obj), w.heap[b]? = some o → (∀ c fr, o ≠ .cells c 60 fr) → b ≠ ob := fun b o hb ho e => by rw [e, h.out] at hb; cases hb; exact ho _ _ rfl
  refine ⟨⟨heap_set_ne h.lp (hne _ _ h.lp (by intro _ _ e; cases e)), heap_set_ne h.sm (hne _ _ h.sm (by intro _ _ e; cases e)), heap_set_ne h.one (hne _ _ h.one (by intro _ _ e; cases e)), set_blk h.out, ?_⟩, heap_set_ne h.bx (hne _ _ h.bx (by intro _ _ e; cases e)), h.kp.set h.out (.inr (.inl rfl))⟩
  refine ownsRow_of h.row fun g o hg ho => ?_
  obtain ⟨c, hc⟩ := ownsRow_blk h.row hg
  rw [hc] at ho; cases ho
  exact heap_set_ne hc (hne _ _ hc (by intro _ _ e; cases e))
end
theorem opC_k {P : Program} {R : World → World → Prop} {D : World → World → Array Event → Prop} {fn : FuncId} {ops : Array Oper} {i : Nat} {o : Oper} {a : Act} {w : World} {K' : Act → World → Prop} (ho : ops[i]? = some o) (hw : Region.wanted o (yielded ops a.tmps) = true)
    (h : ∀ w₁, R w w₁ → ∀ K : Act → World → Prop, (∀ a' w', D w₁ w' (listed P fn a o w₁) ∧ K' a' w' → K a' w') → uponK o a K ((execOp a.eval o).run P w₁)) : OpC P R D fn ops i K' a w := by
  unfold OpC
  rw [ho]
  simp only [hw, if_true]
  intro w₁ h₁
  exact h w₁ h₁ _ fun _ _ x => x

def JB (l : Nat) (r : Loop) (sb ob onb : Nat) (fnv : Value) (fro : Nat × Nat) (rows : List (Int × Int × Int)) (w : World) : Prop := ∃ v, JL l r sb ob onb (sumD 0 rows) fnv fro v rows.length (accD 0 rows) w ∧ (rows = [] → v = .slice none 0 0)

set_option maxRecDepth 100000 in
set_option maxHeartbeats 4000000 in
theorem round47 :
    ∃ k, ∀ (l sb ob onb Dk : Nat) (fnv : Value) (fro : Nat × Nat) (x0 x1 x4 x5 x6 x7 x8 x9 x10 x11 x12 x13 x14 x15 x16 x17 x18 x19 x20 x21 x22 x23 x24 x25 x26 x27 : Value) (rows : List (Int × Int × Int)) (lv lack over : Int) (S : List (Nat × Obj)) (w : World), rows.length < 366 → JB l (recOf Try.f47 #[x0, x1, .pointer (some ⟨onb, 0, none⟩), .pointer (some ⟨sb, 0, none⟩), x4, x5, x6, x7, x8, x9, x10, x11, x12, x13, x14, x15, x16, x17, x18, x19, x20, x21, x22, x23, x24, x25, x26, x27] Dk) sb ob onb fnv fro rows w → Keep S w →
    RoundC PA.prog false Env DN l (recOf Try.f47 #[x0, x1, .pointer (some ⟨onb, 0, none⟩), .pointer (some ⟨sb, 0, none⟩), x4, x5, x6, x7, x8, x9, x10, x11, x12, x13, x14, x15, x16, x17, x18, x19, x20, x21, x22, x23, x24, x25, x26, x27] Dk) #[.int .i64 rows.length, .agg #[.int .i64 lv, .int .i64 lack, .int .i64 over]] k w fun w' => JB l (recOf Try.f47 #[x0, x1, .pointer (some ⟨onb, 0, none⟩), .pointer (some ⟨sb, 0, none⟩), x4, x5, x6, x7, x8, x9, x10, x11, x12, x13, x14, x15, x16, x17, x18, x19, x20, x21, x22, x23, x24, x25, x26, x27] Dk) sb ob onb fnv fro (rows ++ [(lv, lack, over)]) w' ∧ Keep S w' := by
  have hbs := rbs60
  have hbe := ebs60
  obtain ⟨info, hi1, hi2, hi3, hi4⟩ : ∃ i, PA.prog.info? 70 = some i ∧ i.size = 3 ∧ i.bytes = 24 ∧ i.zero = some (.agg #[.int .i64 0, .int .i64 0, .int .i64 0]) := ⟨_, rfl, rfl, rfl, rfl⟩
  co_apply Exists.intro
  rintro l sb ob onb Dk fnv fro x0 x1 x4 x5 x6 x7 x8 x9 x10 x11 x12 x13 x14 x15 x16 x17 x18 x19 x20 x21 x22 x23 x24 x25 x26 x27 rows lv lack over S w h366 ⟨v, hJ, _⟩ hS
  have hq : ∀ (ro : Loop) (s : Int) (tb : Nat) (to : Obj) (w w₁ : World), JR l ro sb ob onb s fnv fro v rows.length (accD 0 rows) tb to S w → Env w w₁ → JR l ro sb ob onb s fnv fro v rows.length (accD 0 rows) tb to S w₁ := fun _ _ _ _ _ _ h e => h.rely e
  have hF : HW (fun w => JL l (recOf Try.f47 #[x0, x1, .pointer (some ⟨onb, 0, none⟩), .pointer (some ⟨sb, 0, none⟩), x4, x5, x6, x7, x8, x9, x10, x11, x12, x13, x14, x15, x16, x17, x18, x19, x20, x21, x22, x23, x24, x25, x26, x27] Dk) sb ob onb (sumD 0 rows) fnv fro v rows.length (accD 0 rows) w) S w := ⟨hJ, hS⟩
  clear hJ hS
  generalize hrec : recOf Try.f47 #[x0, x1, .pointer (some ⟨onb, 0, none⟩), .pointer (some ⟨sb, 0, none⟩), x4, x5, x6, x7, x8, x9, x10, x11, x12, x13, x14, x15, x16, x17, x18, x19, x20, x21, x22, x23, x24, x25, x26, x27] Dk = ro at hF ⊢
  have hro : ro.fn = 47 ∧ ro.assign = asgOf Try.f47 ∧ ro.body = bodyOf Try.f47 ∧ ro.state = .ready ∧ ro.pending = none ∧ (ro.params.zip #[.int .i64 rows.length, .agg #[.int .i64 lv, .int .i64 lack, .int .i64 over]]).foldl (fun tmps (t, x) => tmps.setIfInBounds t x) ro.tmps = #[x0, x1, .pointer (some ⟨onb, 0, none⟩), .pointer (some ⟨sb, 0, none⟩), x4, x5, x6, x7, x8, x9, .int .i64 rows.length, .agg #[.int .i64 lv, .int .i64 lack, .int .i64 over], x12, x13, x14, x15, x16, x17, x18, x19, x20, x21, x22, x23, x24, x25, x26, x27] := by
    subst hrec
    exact ⟨rfl, rfl, rfl, rfl, rfl, by simp [recOf]⟩
  obtain ⟨hr1, hr2, hr3, hr4, hr5, hr6⟩ := hro
  co_apply roundC_at env_terms hr1 hr2 hr3 hr6
  co_apply wpR_region env_terms
  simp only [List.size_toArray, List.length_cons, List.length_nil, Nat.reduceAdd, Nat.zero_add, List.range, List.range.loop]
  co_apply opsR_cons_k env_terms (by rfl) rfl (by rfl)
  intro _ hR' K hK
  replace hF := HW.rely (fun _ _ h e => JL.rely h e) hF hR'
  clear hR'
  (skip)
  go_simp
  try (unfold stored; go_simp)
  refine hK _ _ ⟨?_, ?_⟩
  · (refine dn_new ?_; intro e he; have hm := mem_listed he; simp [go_sem, *] at hm)
  clear hK K
  try walk_nrm
  rename_i W
  have hap : Apart l sb ob onb v W.heap.size S := ⟨fun b hb => Nat.ne_of_lt (hF.body.low b hb), fun p hp => Nat.ne_of_lt (hF.keep.lt p hp)⟩
  replace hF : JR l ro sb ob onb (sumD 0 rows) fnv fro v rows.length (accD 0 rows) W.heap.size (.cells #[.int .i64 0, .int .i64 0, .int .i64 0] 70) S (W.alloc (.cells #[.int .i64 0, .int .i64 0, .int .i64 0] 70)) := ⟨hF.body.alloc _, (hb_new W _).blk, hF.keep.alloc _⟩
  generalize W.heap.size = tb at hF hap ⊢
  generalize W.alloc (.cells #[.int .i64 0, .int .i64 0, .int .i64 0] 70) = W' at hF ⊢
  co_apply opsR_cons_k env_terms (by rfl) rfl (by rfl)
  intro _ hR' K hK
  replace hF := hq _ _ _ _ _ _ hF hR'
  clear hR'
  (have hb0 := hF.bx; have hc0 := cell_blk (i := 0) hb0 rfl; have hz0 := thaw_blk (i := 0) hb0; have hb1 := set_blk (i := 0) (v := .int .i64 lv) hb0; have hc1 := cell_blk (i := 1) hb1 rfl; have hz1 := thaw_blk (i := 1) hb1; have hb2 := set_blk (i := 1) (v := .int .i64 lack) hb1; have hc2 := cell_blk (i := 2) hb2 rfl; have hz2 := thaw_blk (i := 2) hb2)
  go_simp
  try (unfold stored; go_simp)
  refine hK _ _ ⟨?_, ?_⟩
  · (refine dn_cells (own_trans (own_setCell hb0) (own_trans (own_setCell hb1) (own_setCell hb2))) ?_; intro e he; have hm := mem_listed he; simp [go_sem, *] at hm; rcases hm with rfl | rfl | rfl <;> (intro r; simp))
  clear hK K
  try walk_nrm
  replace hF := ((hF.setBox hap rfl 0 (.int .i64 lv)).setBox hap rfl 1 (.int .i64 lack)).setBox hap rfl 2 (.int .i64 over)
  clear hb0 hb1 hb2 hc0 hc1 hc2 hz0 hz1 hz2
  co_apply opsR_nil env_terms
  intro w₂ hR2
  replace hF := hF.rely hR2
  clear hR2
  refine ⟨hF.jl.lp, hr4, dn_loop hF.jl.lp (ev_begin hF.jl.lp hr4), ?_⟩
  replace hF := hF.putLoop hap { ro with state := .busy }
  generalize w₂.putObj l (.loop { ro with state := .busy }) = w₃ at hF ⊢
  clear hr6 hr1 hr2 hr3 hrec
  co_apply wpR_block env_terms
  co_apply wpR_seq env_terms
  co_apply wpR_region env_terms
  simp only [List.size_toArray, List.length_cons, List.length_nil, Nat.reduceAdd, Nat.zero_add, List.range, List.range.loop]
  co_apply opsR_cons_k env_terms (by rfl) rfl (by rfl)
  intro _ hR' K hK
  replace hF := hq _ _ _ _ _ _ hF hR'
  clear hR'
  (have hc0 := cell_blk (i := 0) hF.jl.sm rfl)
  go_simp
  try (unfold stored; go_simp)
  refine hK _ _ ⟨?_, ?_⟩
  · (refine dn_still ?_; intro e he; have hm := mem_listed he; simp [go_sem, *] at hm; subst hm; (intro r; simp))
  clear hK K
  try walk_nrm
  clear hc0
  co_apply opsR_cons_k env_terms (by rfl) rfl (by rfl)
  intro _ hR' K hK
  replace hF := hq _ _ _ _ _ _ hF hR'
  clear hR'
  (skip)
  go_simp
  try (unfold stored; go_simp)
  refine hK _ _ ⟨?_, ?_⟩
  · (rw [listed_nil (by simp [go_sem])]; exact env_terms.idle _)
  clear hK K
  try walk_nrm
  co_apply opsR_cons_k env_terms (by rfl) rfl (by rfl)
  intro _ hR' K hK
  replace hF := hq _ _ _ _ _ _ hF hR'
  clear hR'
  (have hc0 := cell_blk (i := 2) hF.bx rfl)
  go_simp
  try (unfold stored; go_simp)
  refine hK _ _ ⟨?_, ?_⟩
  · (refine dn_still ?_; intro e he; have hm := mem_listed he; simp [go_sem, *] at hm; subst hm; (intro r; simp))
  clear hK K
  try walk_nrm
  clear hc0
  co_apply opsR_cons_k env_terms (by rfl) rfl (by rfl)
  intro _ hR' K hK
  replace hF := hq _ _ _ _ _ _ hF hR'
  clear hR'
  (skip)
  go_simp
  try (unfold stored; go_simp)
  refine hK _ _ ⟨?_, ?_⟩
  · (rw [listed_nil (by simp [go_sem])]; exact env_terms.idle _)
  clear hK K
  try walk_nrm
  co_apply opsR_cons_k env_terms (by rfl) rfl (by rfl)
  intro _ hR' K hK
  replace hF := hq _ _ _ _ _ _ hF hR'
  clear hR'
  (have hc0 := cell_blk (i := 0) hF.jl.sm rfl; have hz0 := thaw_blk (i := 0) hF.jl.sm)
  go_simp
  try (unfold stored; go_simp)
  refine hK _ _ ⟨?_, ?_⟩
  · (refine dn_cells (own_setCell hF.jl.sm) ?_; intro e he; have hm := mem_listed he; simp [go_sem, *] at hm; subst hm; (intro r; simp))
  clear hK K
  try walk_nrm
  replace hF := hF.setSum hap (IntKind.i64.wrap (sumD 0 rows + over))
  clear hc0 hz0
  co_apply opsR_nil env_terms
  co_apply wpR_seq env_terms
  co_apply wpR_region env_terms
  simp only [List.size_toArray, List.length_cons, List.length_nil, Nat.reduceAdd, Nat.zero_add, List.range, List.range.loop]
  co_apply opsR_cons_k env_terms (by rfl) rfl (by rfl)
  intro _ hR' K hK
  replace hF := hq _ _ _ _ _ _ hF hR'
  clear hR'
  (have hc0 := cell_blk (i := 0) hF.jl.sm rfl)
  go_simp
  try (unfold stored; go_simp)
  refine hK _ _ ⟨?_, ?_⟩
  · (refine dn_still ?_; intro e he; have hm := mem_listed he; simp [go_sem, *] at hm; subst hm; (intro r; simp))
  clear hK K
  try walk_nrm
  clear hc0
  co_apply opsR_cons_k env_terms (by rfl) rfl (by rfl)
  intro _ hR' K hK
  replace hF := hq _ _ _ _ _ _ hF hR'
  clear hR'
  (skip)
  go_simp
  try (unfold stored; go_simp)
  refine hK _ _ ⟨?_, ?_⟩
  · (rw [listed_nil (by simp [go_sem])]; exact env_terms.idle _)
  clear hK K
  try walk_nrm
  co_apply opsR_cons_k env_terms (by rfl) rfl (by rfl)
  intro _ hR' K hK
  replace hF := hq _ _ _ _ _ _ hF hR'
  clear hR'
  (have hc0 := cell_blk (i := 2) hF.bx rfl; have hz0 := thaw_blk (i := 2) hF.bx)
  go_simp
  try (unfold stored; go_simp)
  refine hK _ _ ⟨?_, ?_⟩
  · (refine dn_cells (own_setCell hF.bx) ?_; intro e he; have hm := mem_listed he; simp [go_sem, *] at hm; subst hm; (intro r; simp))
  clear hK K
  try walk_nrm
  replace hF := hF.setBox hap rfl 2 (.int .i64 (IntKind.i64.wrap (sumD 0 rows + over)))
  clear hc0 hz0
  co_apply opsR_nil env_terms
  have hSR : ∀ x y : World, (x.heap[onb]? = some (.cells #[.pointer (some ⟨ob, 0, none⟩), fnv] 90 fro) ∧ x.heap[tb]? = some (.cells #[.int .i64 lv, .int .i64 lack, .int .i64 (IntKind.i64.wrap (sumD 0 rows + over))] 70)) → Env x y → (y.heap[onb]? = some (.cells #[.pointer (some ⟨ob, 0, none⟩), fnv] 90 fro) ∧ y.heap[tb]? = some (.cells #[.int .i64 lv, .int .i64 lack, .int .i64 (IntKind.i64.wrap (sumD 0 rows + over))] 70)) := fun x y h r => ⟨env_at r h.1, env_at r h.2⟩
  co_apply wpR_held env_terms dn_draw (S := fun x => x.heap[onb]? = some (.cells #[.pointer (some ⟨ob, 0, none⟩), fnv] 90 fro) ∧ x.heap[tb]? = some (.cells #[.int .i64 lv, .int .i64 lack, .int .i64 (IntKind.i64.wrap (sumD 0 rows + over))] 70)) (noDefer_spec (by rfl)) (by first | kernel_rfl | rfl)
  intro w₅ hR5
  replace hF := (hF.rely hR5).rely (env_draw _)
  clear hR5
  have hS6 := And.intro hF.jl.one hF.bx
  simp only [List.size_toArray, List.length_cons, List.length_nil, Nat.reduceAdd, Nat.zero_add]
  co_applyP anyCH_take env_terms (fun _ _ h r => hSR _ _ h r) (fun _ _ _ h r => ⟨h.1, fun w4 h4 => h.2 w4 (Env.trans _ _ _ r h4)⟩) (i := 0) rfl (by first | kernel_rfl | decide +kernel) (by first | kernel_rfl | decide +kernel) (by first | kernel_rfl | decide +kernel)
     (.inl ⟨by rfl, fun _ hw => ⟨run_eq_of ?runq1, ?guarq1⟩⟩) hS6 ?restq1
  case runq1 =>
     intro K hK
     (skip)
     go_simp
     exact hK
  case guarq1 =>
     (skip)
     (rw [listed_nil (by simp [go_sem])]; exact env_terms.idle _)
  try walk_nrm
  co_applyP anyCH_take env_terms (fun _ _ h r => hSR _ _ h r) (fun _ _ _ h r => ⟨h.1, fun w4 h4 => h.2 w4 (Env.trans _ _ _ r h4)⟩) (i := 1) rfl (by first | kernel_rfl | decide +kernel) (by first | kernel_rfl | decide +kernel) (by first | kernel_rfl | decide +kernel)
     (.inl ⟨by rfl, fun _ hw => ⟨run_eq_of ?runq2, ?guarq2⟩⟩) hS6 ?restq2
  case runq2 =>
     intro K hK
     (have hc := cell_blk (i := 0) hw.1 rfl)
     go_simp
     exact hK
  case guarq2 =>
     (have hc := cell_blk (i := 0) hw.1 rfl)
     (refine dn_still ?_; intro e he; have hm := mem_listed he; simp [go_sem, *] at hm; subst hm; (intro r; simp))
  try walk_nrm
  co_applyP anyCH_take env_terms (fun _ _ h r => hSR _ _ h r) (fun _ _ _ h r => ⟨h.1, fun w4 h4 => h.2 w4 (Env.trans _ _ _ r h4)⟩) (i := 2) rfl (by first | kernel_rfl | decide +kernel) (by first | kernel_rfl | decide +kernel) (by first | kernel_rfl | decide +kernel)
     (.inl ⟨by rfl, fun _ hw => ⟨run_eq_of ?runq3, ?guarq3⟩⟩) hS6 ?restq3
  case runq3 =>
     intro K hK
     (skip)
     go_simp
     exact hK
  case guarq3 =>
     (skip)
     (rw [listed_nil (by simp [go_sem])]; exact env_terms.idle _)
  try walk_nrm
  co_applyP anyCH_take env_terms (fun _ _ h r => hSR _ _ h r) (fun _ _ _ h r => ⟨h.1, fun w4 h4 => h.2 w4 (Env.trans _ _ _ r h4)⟩) (i := 3) rfl (by first | kernel_rfl | decide +kernel) (by first | kernel_rfl | decide +kernel) (by first | kernel_rfl | decide +kernel)
     (.inl ⟨by rfl, fun _ hw => ⟨run_eq_of ?runq4, ?guarq4⟩⟩) hS6 ?restq4
  case runq4 =>
     intro K hK
     (have hc := cell_blk (i := 0) hw.1 rfl)
     go_simp
     exact hK
  case guarq4 =>
     (have hc := cell_blk (i := 0) hw.1 rfl)
     (refine dn_still ?_; intro e he; have hm := mem_listed he; simp [go_sem, *] at hm; subst hm; (intro r; simp))
  try walk_nrm
  co_applyP anyCH_take env_terms (fun _ _ h r => hSR _ _ h r) (fun _ _ _ h r => ⟨h.1, fun w4 h4 => h.2 w4 (Env.trans _ _ _ r h4)⟩) (i := 4) rfl (by first | kernel_rfl | decide +kernel) (by first | kernel_rfl | decide +kernel) (by first | kernel_rfl | decide +kernel)
     (.inl ⟨by rfl, fun _ hw => ⟨run_eq_of ?runq5, ?guarq5⟩⟩) hS6 ?restq5
  case runq5 =>
     intro K hK
     (skip)
     go_simp
     exact hK
  case guarq5 =>
     (skip)
     (rw [listed_nil (by simp [go_sem])]; exact env_terms.idle _)
  try walk_nrm
  co_applyP anyCH_take env_terms (fun _ _ h r => hSR _ _ h r) (fun _ _ _ h r => ⟨h.1, fun w4 h4 => h.2 w4 (Env.trans _ _ _ r h4)⟩) (i := 6) rfl (by first | kernel_rfl | decide +kernel) (by first | kernel_rfl | decide +kernel) (by first | kernel_rfl | decide +kernel)
     (.inl ⟨by rfl, fun _ hw => ⟨run_eq_of ?runq6, ?guarq6⟩⟩) hS6 ?restq6
  case runq6 =>
     intro K hK
     (have hc0 := cell_blk (i := 0) hw.2 rfl; have hc1 := cell_blk (i := 1) hw.2 rfl; have hc2 := cell_blk (i := 2) hw.2 rfl)
     go_simp
     exact hK
  case guarq6 =>
     (have hc0 := cell_blk (i := 0) hw.2 rfl; have hc1 := cell_blk (i := 1) hw.2 rfl; have hc2 := cell_blk (i := 2) hw.2 rfl)
     (refine dn_still ?_; intro e he; have hm := mem_listed he; simp [go_sem, *] at hm; rcases hm with rfl | rfl | rfl <;> (intro r; simp))
  try walk_nrm
  clear hS6
  refine anyCH_all (rs := [5, 7]) (by first | kernel_rfl | decide +kernel) (by simp) ?_
  intro i hi
  have hi : i = 5 ∨ i = 7 := by simpa using hi
  rcases hi with rfl | rfl
  · refine opC_k rfl (by rfl) ?_
    intro _ hR' K hK
    replace hF := hq _ _ _ _ _ _ hF hR'
    clear hR'
    (have hc := cell_blk (i := 0) hF.jl.out rfl)
    go_simp
    try (unfold stored; go_simp)
    refine hK _ _ ⟨?_, ⟨hF.jl.one, hF.bx⟩, ?_⟩
    · (refine dn_still ?_; intro e he; have hm := mem_listed he; simp [go_sem, *] at hm; subst hm; (intro r; simp))
    clear hK K
    try walk_nrm
    clear hc
    refine anyCH_all (rs := [7]) (by first | kernel_rfl | decide +kernel) (by simp) ?_
    intro i hi
    obtain rfl := List.mem_singleton.1 hi
    clear hi
    refine opC_k rfl (by rfl) ?_
    intro W hR' K hK
    replace hF := hq _ _ _ _ _ _ hF hR'
    clear hR'
    go_simp
    replace hF : JR l _ sb ob onb _ fnv fro v rows.length (accD 0 rows) tb _ S (W.alloc (.cells #[.int .i64 lv, .int .i64 lack, .int .i64 (IntKind.i64.wrap (sumD 0 rows + over))] 70)) := ⟨hF.jl.alloc _, (hb_old ⟨hF.bx⟩ _).blk, hF.kp.alloc _⟩
    refine hK _ _ ⟨?_, ⟨hF.jl.one, hF.bx⟩, ?_⟩
    · refine dn_new ?_
      intro e he; have hm := mem_listed he; first | (simp [go_sem] at hm; done) | (simp [go_sem] at hm; rw [hbe] at hm; simp at hm)
    clear hK K
    try walk_nrm
    replace hF : HB1 (JR l { ro with state := .busy } sb ob onb (IntKind.i64.wrap (sumD 0 rows + over)) fnv fro v rows.length (accD 0 rows) tb (.cells #[.int .i64 lv, .int .i64 lack, .int .i64 (IntKind.i64.wrap (sumD 0 rows + over))] 70) S) W.heap.size (.cells #[.int .i64 lv, .int .i64 lack, .int .i64 (IntKind.i64.wrap (sumD 0 rows + over))] 70) (W.alloc (.cells #[.int .i64 lv, .int .i64 lack, .int .i64 (IntKind.i64.wrap (sumD 0 rows + over))] 70)) := ⟨hb_new W _, hF⟩
    generalize W.heap.size = nb at hF ⊢
    generalize W.alloc (.cells #[.int .i64 lv, .int .i64 lack, .int .i64 (IntKind.i64.wrap (sumD 0 rows + over))] 70) = W' at hF ⊢
    refine anyCH_all (rs := [8]) (by first | kernel_rfl | decide +kernel) (by simp) ?_
    intro i hi
    obtain rfl := List.mem_singleton.1 hi
    clear hi
    refine opC_k rfl (by rfl) ?_
    intro W hR' K hK
    replace hF := HB1.rely (hq _ _ _ _) hF hR'
    clear hR'
    obtain ⟨v', w', hrun, hrow, hown, hsz, hk1, hk2, hevs⟩ := append_co (P := PA.prog) W 0 60 60 70 info _ 3 24 (by kernel_rfl) hi1 hi4 hi2 hi3 rfl (by decide) v rows.length (accD 0 rows) hF.more.jl.row ⟨nb, 0, none⟩ 1 [.int .i64 lv, .int .i64 lack, .int .i64 (IntKind.i64.wrap (sumD 0 rows + over))] rfl
      (by intro j u hu; rw [show (⟨nb, 0, none⟩ : Addr).add j = ⟨nb, j, none⟩ from by simp [Addr.add]; intro h; exact h.symm]; refine cell_blk hF.one.blk ?_; simpa using hu) (by intro u hu; simp at hu; rcases hu with rfl | rfl | rfl <;> rfl) (by simp only [maxLen]; omega) (by omega) (Nat.zero_le _)
    obtain ⟨g, cap, rfl⟩ : ∃ g cap, v' = .slice (some ⟨g, 0, none⟩) (rows.length + 1) cap := by
      rcases hrow.2 with ⟨_, h0⟩ | ⟨g, cap, _, h1, _⟩
      · omega
      · exact ⟨g, cap, h1⟩
    refine uponK_append (.tmp 23) (.tmp 25) 60 rfl rfl rfl hrun (hK _ _ ⟨dn_cells hown ?_, ⟨hk1 _ _ hF.more.jl.one (by intro _ _ e; cases e), hk2 _ _ hF.more.bx (fun e => hap.five _ (.inr (.inr (.inr (.inr e.symm)))) rfl)⟩, ?_⟩)
    · intro e he
      have hm := mem_listed he
      rw [events_append_op (.tmp 23) (.tmp 25) 60 rfl rfl rfl] at hm
      exact hevs e hm
    clear hK K
    try walk_nrm
    replace hF : JA l { ro with state := .busy } sb ob onb (IntKind.i64.wrap (sumD 0 rows + over)) fnv fro v (.slice (some ⟨g, 0, none⟩) (rows.length + 1) cap) (rows.length + 1) _ tb (.cells #[.int .i64 lv, .int .i64 lack, .int .i64 (IntKind.i64.wrap (sumD 0 rows + over))] 70) S w' :=
      ⟨hk1 _ _ hF.more.jl.lp (by intro _ _ e; cases e), hk1 _ _ hF.more.jl.sm (by intro _ _ e; cases e), hk1 _ _ hF.more.jl.one (by intro _ _ e; cases e), hk1 _ _ hF.more.jl.out (by intro _ _ e; cases e), hrow, hk2 _ _ hF.more.bx (fun e => hap.five _ (.inr (.inr (.inr (.inr e.symm)))) rfl), fun p hp => ⟨hk1 _ _ (hF.more.kp p hp).1 (hF.more.kp p hp).2.2.2.1, (hF.more.kp p hp).2⟩⟩
    clear hrun hrow hown hsz hk1 hk2 hevs
    co_applyP anyCH_take env_terms (fun _ _ h r => hSR _ _ h r) (fun _ _ _ h r => ⟨h.1, fun w4 h4 => h.2 w4 (Env.trans _ _ _ r h4)⟩) (i := 9) rfl (by first | kernel_rfl | decide +kernel) (by first | kernel_rfl | decide +kernel) (by first | kernel_rfl | decide +kernel)
       (.inl ⟨by rfl, fun _ hw => ⟨run_eq_of ?runq7, ?guarq7⟩⟩) ⟨hF.one, hF.bx⟩ ?restq7
    case runq7 =>
       intro K hK
       (skip)
       go_simp
       exact hK
    case guarq7 =>
       (skip)
       (rw [listed_nil (by simp [go_sem])]; exact env_terms.idle _)
    try walk_nrm
    refine anyCH_all (rs := [10]) (by first | kernel_rfl | decide +kernel) (by simp) ?_
    intro i hi
    obtain rfl := List.mem_singleton.1 hi
    clear hi
    refine opC_k rfl (by rfl) ?_
    intro W3 hR' K hK
    replace hF := hF.rely hR'
    clear hR'
    have hc := cell_blk (i := 0) hF.out rfl
    have hz := thaw_blk (i := 0) hF.out
    go_simp
    try (unfold stored; go_simp)
    have hL := hF.stored
    refine hK _ _ ⟨?_, ⟨hL.1.one, hL.2.1⟩, ?_⟩
    · refine dn_cells (own_setCell hF.out) ?_; intro e he; have hm := mem_listed he; simp [go_sem] at hm; rw [events_store _ _ _ _ _ _ rfl] at hm; simp [hc, hz] at hm; first | (subst hm; intro r; simp; done) | (rcases hm with rfl | rfl <;> (intro r; simp))
    clear hK K hc hz
    co_done
    refine ⟨trivial, fun w₄ h₄ => ⟨_, (hL.1.rely h₄).lp, dn_loop (hL.1.rely h₄).lp (ev_end (hL.1.rely h₄).lp), ⟨.slice (some ⟨g, 0, none⟩) (rows.length + 1) cap, ?_, by simp⟩, (hL.2.2.rely h₄).putLoop (hL.1.rely h₄).lp⟩⟩
    have h5 := (hL.1.rely h₄).putLoop ro
    rw [sumD_snoc, accD_snoc, List.length_append, List.length_singleton]
    have e5 : ({ ({ ro with state := .busy } : Loop) with state := .ready, pending := none } : Loop) = ro := by
      cases ro
      simp at hr4 hr5
      simp [hr4, hr5]
    rw [e5]
    exact h5
  · refine opC_k rfl (by rfl) ?_
    intro W hR' K hK
    replace hF := hq _ _ _ _ _ _ hF hR'
    clear hR'
    go_simp
    replace hF : JR l _ sb ob onb _ fnv fro v rows.length (accD 0 rows) tb _ S (W.alloc (.cells #[.int .i64 lv, .int .i64 lack, .int .i64 (IntKind.i64.wrap (sumD 0 rows + over))] 70)) := ⟨hF.jl.alloc _, (hb_old ⟨hF.bx⟩ _).blk, hF.kp.alloc _⟩
    refine hK _ _ ⟨?_, ⟨hF.jl.one, hF.bx⟩, ?_⟩
    · refine dn_new ?_
      intro e he; have hm := mem_listed he; first | (simp [go_sem] at hm; done) | (simp [go_sem] at hm; rw [hbe] at hm; simp at hm)
    clear hK K
    try walk_nrm
    replace hF : HB1 (JR l { ro with state := .busy } sb ob onb (IntKind.i64.wrap (sumD 0 rows + over)) fnv fro v rows.length (accD 0 rows) tb (.cells #[.int .i64 lv, .int .i64 lack, .int .i64 (IntKind.i64.wrap (sumD 0 rows + over))] 70) S) W.heap.size (.cells #[.int .i64 lv, .int .i64 lack, .int .i64 (IntKind.i64.wrap (sumD 0 rows + over))] 70) (W.alloc (.cells #[.int .i64 lv, .int .i64 lack, .int .i64 (IntKind.i64.wrap (sumD 0 rows + over))] 70)) := ⟨hb_new W _, hF⟩
    generalize W.heap.size = nb at hF ⊢
    generalize W.alloc (.cells #[.int .i64 lv, .int .i64 lack, .int .i64 (IntKind.i64.wrap (sumD 0 rows + over))] 70) = W' at hF ⊢
    refine anyCH_all (rs := [5]) (by first | kernel_rfl | decide +kernel) (by simp) ?_
    intro i hi
    obtain rfl := List.mem_singleton.1 hi
    clear hi
    refine opC_k rfl (by rfl) ?_
    intro _ hR' K hK
    replace hF := HB1.rely (hq _ _ _ _) hF hR'
    clear hR'
    (have hc := cell_blk (i := 0) hF.more.jl.out rfl)
    go_simp
    try (unfold stored; go_simp)
    refine hK _ _ ⟨?_, ⟨hF.more.jl.one, hF.more.bx⟩, ?_⟩
    · (refine dn_still ?_; intro e he; have hm := mem_listed he; simp [go_sem, *] at hm; subst hm; (intro r; simp))
    clear hK K
    try walk_nrm
    clear hc
    refine anyCH_all (rs := [8]) (by first | kernel_rfl | decide +kernel) (by simp) ?_
    intro i hi
    obtain rfl := List.mem_singleton.1 hi
    clear hi
    refine opC_k rfl (by rfl) ?_
    intro W hR' K hK
    replace hF := HB1.rely (hq _ _ _ _) hF hR'
    clear hR'
    obtain ⟨v', w', hrun, hrow, hown, hsz, hk1, hk2, hevs⟩ := append_co (P := PA.prog) W 0 60 60 70 info _ 3 24 (by kernel_rfl) hi1 hi4 hi2 hi3 rfl (by decide) v rows.length (accD 0 rows) hF.more.jl.row ⟨nb, 0, none⟩ 1 [.int .i64 lv, .int .i64 lack, .int .i64 (IntKind.i64.wrap (sumD 0 rows + over))] rfl
      (by intro j u hu; rw [show (⟨nb, 0, none⟩ : Addr).add j = ⟨nb, j, none⟩ from by simp [Addr.add]; intro h; exact h.symm]; refine cell_blk hF.one.blk ?_; simpa using hu) (by intro u hu; simp at hu; rcases hu with rfl | rfl | rfl <;> rfl) (by simp only [maxLen]; omega) (by omega) (Nat.zero_le _)
    obtain ⟨g, cap, rfl⟩ : ∃ g cap, v' = .slice (some ⟨g, 0, none⟩) (rows.length + 1) cap := by
      rcases hrow.2 with ⟨_, h0⟩ | ⟨g, cap, _, h1, _⟩
      · omega
      · exact ⟨g, cap, h1⟩
    refine uponK_append (.tmp 23) (.tmp 25) 60 rfl rfl rfl hrun (hK _ _ ⟨dn_cells hown ?_, ⟨hk1 _ _ hF.more.jl.one (by intro _ _ e; cases e), hk2 _ _ hF.more.bx (fun e => hap.five _ (.inr (.inr (.inr (.inr e.symm)))) rfl)⟩, ?_⟩)
    · intro e he
      have hm := mem_listed he
      rw [events_append_op (.tmp 23) (.tmp 25) 60 rfl rfl rfl] at hm
      exact hevs e hm
    clear hK K
    try walk_nrm
    replace hF : JA l { ro with state := .busy } sb ob onb (IntKind.i64.wrap (sumD 0 rows + over)) fnv fro v (.slice (some ⟨g, 0, none⟩) (rows.length + 1) cap) (rows.length + 1) _ tb (.cells #[.int .i64 lv, .int .i64 lack, .int .i64 (IntKind.i64.wrap (sumD 0 rows + over))] 70) S w' :=
      ⟨hk1 _ _ hF.more.jl.lp (by intro _ _ e; cases e), hk1 _ _ hF.more.jl.sm (by intro _ _ e; cases e), hk1 _ _ hF.more.jl.one (by intro _ _ e; cases e), hk1 _ _ hF.more.jl.out (by intro _ _ e; cases e), hrow, hk2 _ _ hF.more.bx (fun e => hap.five _ (.inr (.inr (.inr (.inr e.symm)))) rfl), fun p hp => ⟨hk1 _ _ (hF.more.kp p hp).1 (hF.more.kp p hp).2.2.2.1, (hF.more.kp p hp).2⟩⟩
    clear hrun hrow hown hsz hk1 hk2 hevs
    co_applyP anyCH_take env_terms (fun _ _ h r => hSR _ _ h r) (fun _ _ _ h r => ⟨h.1, fun w4 h4 => h.2 w4 (Env.trans _ _ _ r h4)⟩) (i := 9) rfl (by first | kernel_rfl | decide +kernel) (by first | kernel_rfl | decide +kernel) (by first | kernel_rfl | decide +kernel)
       (.inl ⟨by rfl, fun _ hw => ⟨run_eq_of ?runq8, ?guarq8⟩⟩) ⟨hF.one, hF.bx⟩ ?restq8
    case runq8 =>
       intro K hK
       (skip)
       go_simp
       exact hK
    case guarq8 =>
       (skip)
       (rw [listed_nil (by simp [go_sem])]; exact env_terms.idle _)
    try walk_nrm
    refine anyCH_all (rs := [10]) (by first | kernel_rfl | decide +kernel) (by simp) ?_
    intro i hi
    obtain rfl := List.mem_singleton.1 hi
    clear hi
    refine opC_k rfl (by rfl) ?_
    intro W3 hR' K hK
    replace hF := hF.rely hR'
    clear hR'
    have hc := cell_blk (i := 0) hF.out rfl
    have hz := thaw_blk (i := 0) hF.out
    go_simp
    try (unfold stored; go_simp)
    have hL := hF.stored
    refine hK _ _ ⟨?_, ⟨hL.1.one, hL.2.1⟩, ?_⟩
    · refine dn_cells (own_setCell hF.out) ?_; intro e he; have hm := mem_listed he; simp [go_sem] at hm; rw [events_store _ _ _ _ _ _ rfl] at hm; simp [hc, hz] at hm; first | (subst hm; intro r; simp; done) | (rcases hm with rfl | rfl <;> (intro r; simp))
    clear hK K hc hz
    co_done
    refine ⟨trivial, fun w₄ h₄ => ⟨_, (hL.1.rely h₄).lp, dn_loop (hL.1.rely h₄).lp (ev_end (hL.1.rely h₄).lp), ⟨.slice (some ⟨g, 0, none⟩) (rows.length + 1) cap, ?_, by simp⟩, (hL.2.2.rely h₄).putLoop (hL.1.rely h₄).lp⟩⟩
    have h5 := (hL.1.rely h₄).putLoop ro
    rw [sumD_snoc, accD_snoc, List.length_append, List.length_singleton]
    have e5 : ({ ({ ro with state := .busy } : Loop) with state := .ready, pending := none } : Loop) = ro := by
      cases ro
      simp at hr4 hr5
      simp [hr4, hr5]
    rw [e5]
    exact h5
end Go.Proofs.Ytpolipcicfjkiaa.Cy
