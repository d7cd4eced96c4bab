/- The body of lasts' loop. Conditions: none. -/
import Derived.Test.YtpolipcicfjkiaaK17
import Derived.DyingOn
namespace Go.Proofs.Ytpolipcicfjkiaa.Cy
open Go Go.Conc Go.RowKit Go.Proofs

def rfParts2 : Code → Option (Array Tmp × Code × Code)
  | .seq a b => match rfParts2 a with | some x => some x | none => rfParts2 b
  | .block _ c => rfParts2 c
  | .rangeFunc _ ps x y => some (ps, x, y)
  | _ => none
def asgO (f : Func) : Code := match f.body.bind rfParts2 with | some (_, x, _) => x | none => .skip
def bodyO (f : Func) : Code := match f.body.bind rfParts2 with | some (_, _, y) => y | none => .skip
def recO (f : Func) (tm : Array Value) (Dk : Nat) : Loop := { state := .ready, pending := none, fn := 32, tmps := tm, params := #[8, 9], assign := asgO f, body := bodyO f, defers := Dk }
def b1L (f : Func) : Code := match bodyO f with | .block _ c => c | c => c
def b3L (f : Func) : Code := match b1L f with | .seq a _ => a | c => c
def b4L (f : Func) : Code := match b1L f with | .seq _ (.cond _ (.seq a _) _) => a | c => c
theorem bodyO_is : bodyO Try.f32 = .block 1 (.seq (b3L Try.f32) (.cond (.tmp 11) (.seq (b4L Try.f32) .ret) .skip)) := rfl

/-- What stood when lasts began stands. -/
structure Olds (B : Nat) (O : Nat → Option Obj) (w : World) : Prop where
  le : B ≤ w.heap.size
  same : ∀ b, b < B → w.heap[b]? = O b
theorem Olds.rely {B : Nat} {O : Nat → Option Obj} {w w₁ : World} (h : Olds B O w) (e : Env w w₁) : Olds B O w₁ := ⟨Nat.le_trans h.le e.1, fun b hb => by rw [e.2.1 b (Nat.lt_of_lt_of_le hb h.le)]; exact h.same b hb⟩
theorem Olds.alloc {B : Nat} {O : Nat → Option Obj} {w : World} (h : Olds B O w) (o : Obj) : Olds B O (w.alloc o) := ⟨by have := h.le; simp; omega, fun b hb => by
  have hlt : b < w.heap.size := Nat.lt_of_lt_of_le hb h.le
  rw [← h.same b hb, Array.getElem?_eq_getElem hlt]
  exact (hb_old ⟨Array.getElem?_eq_getElem hlt⟩ o).blk⟩
theorem Olds.set {B : Nat} {O : Nat → Option Obj} {w : World} (h : Olds B O w) {ad : Addr} {v : Value} (hb : B ≤ ad.block) : Olds B O (w.setCell ad v) := ⟨by have := h.le; unfold World.setCell; simpa using this, fun b hb' => by rw [setCell_ne w ad v (by omega)]; exact h.same b hb'⟩
theorem Olds.put {B : Nat} {O : Nat → Option Obj} {w : World} (h : Olds B O w) {l : Nat} {o : Obj} (hl : B ≤ l) : Olds B O (w.putObj l o) := ⟨by have := h.le; simpa [World.putObj] using this, fun b hb' => by rw [World.putObj_heap_other (by omega)]; exact h.same b hb'⟩

structure LB (B : Nat) (O : Nat → Option Obj) (l : Nat) (r : Loop) (rb Dk : Nat) (w : World) : Prop where
  lp : w.heap[l]? = some (.loop r)
  rs : w.heap[rb]? = some (.cells #[.bool false] 4)
  df : w.heap[Dk]? = some (.deferred (some []))
  old : Olds B O w
  lB : B ≤ l
  rB : B ≤ rb
section
variable {B : Nat} {O : Nat → Option Obj} {l : Nat} {r : Loop} {rb Dk : Nat} {w w₁ : World}
theorem LB.rely (h : LB B O l r rb Dk w) (e : Env w w₁) : LB B O l r rb Dk w₁ := ⟨env_at e h.lp, env_at e h.rs, env_at e h.df, h.old.rely e, h.lB, h.rB⟩
theorem LB.alloc (h : LB B O l r rb Dk w) (o : Obj) : LB B O l r rb Dk (w.alloc o) := ⟨(hb_old ⟨h.lp⟩ o).blk, (hb_old ⟨h.rs⟩ o).blk, (hb_old ⟨h.df⟩ o).blk, h.old.alloc o, h.lB, h.rB⟩
theorem LB.set (h : LB B O l r rb Dk w) {cb i : Nat} {v : Value} (hB : B ≤ cb) (h1 : cb ≠ l) (h2 : cb ≠ rb) (h3 : cb ≠ Dk) : LB B O l r rb Dk (w.setCell ⟨cb, i, none⟩ v) :=
  ⟨heap_set_ne h.lp h1.symm, heap_set_ne h.rs h2.symm, heap_set_ne h.df h3.symm, h.old.set hB, h.lB, h.rB⟩
theorem LB.setTy (h : LB B O l r rb Dk w) {cb i : Nat} {v : Value} {c : Array Value} {e : TypeId} {fr : Nat × Nat} (hB : B ≤ cb) (hb : w.heap[cb]? = some (.cells c e fr)) (h4 : e ≠ 4) : LB B O l r rb Dk (w.setCell ⟨cb, i, none⟩ v) :=
  h.set hB (fun e' => by rw [e', h.lp] at hb; cases hb) (fun e' => by rw [e', h.rs] at hb; cases hb; exact h4 rfl) (fun e' => by rw [e', h.df] at hb; cases hb)
theorem LB.put (h : LB B O l r rb Dk w) (r' : Loop) : LB B O l r' rb Dk (w.putObj l (.loop r')) := by
  have hlt := (Array.getElem?_eq_some_iff.1 h.lp).1
  refine ⟨World.putObj_heap_same hlt, ?_, ?_, h.old.put h.lB, h.lB, h.rB⟩
  · rw [World.putObj_heap_other (fun e => by have := h.rs; rw [e, h.lp] at this; cases this)]; exact h.rs
  · rw [World.putObj_heap_other (fun e => by have := h.df; rw [e, h.lp] at this; cases this)]; exact h.df
theorem LB.setRs (h : LB B O l r rb Dk w) : LB B O l r rb Dk (w.setCell ⟨rb, 0, none⟩ (.bool false)) :=
  ⟨heap_set_ne h.lp (fun e => by have := h.lp; rw [e, h.rs] at this; cases this), set_blk h.rs, heap_set_ne h.df (fun e => by have := h.df; rw [e, h.rs] at this; cases this), h.old.set h.rB, h.lB, h.rB⟩
end

/-- .. with the rest: the day's box, what stands. -/
structure LR (B : Nat) (O : Nat → Option Obj) (l : Nat) (r : Loop) (rb Dk : Nat) (S : List (Nat × Obj)) (w : World) : Prop where
  lb : LB B O l r rb Dk w
  kp : Keep S w
theorem LR.rely {B : Nat} {O : Nat → Option Obj} {l : Nat} {r : Loop} {rb Dk : Nat} {S : List (Nat × Obj)} (w w₁ : World) (h : LR B O l r rb Dk S w) (e : Env w w₁) : LR B O l r rb Dk S w₁ := ⟨h.lb.rely e, h.kp.rely e⟩
theorem LR.alloc {B : Nat} {O : Nat → Option Obj} {l : Nat} {r : Loop} {rb Dk : Nat} {S : List (Nat × Obj)} (w : World) (c : Array Value) (e : TypeId) (h : LR B O l r rb Dk S w) : LR B O l r rb Dk S (w.alloc (Obj.cells c e)) := ⟨h.lb.alloc _, h.kp.alloc _⟩

def jL (B : Nat) (O : Nat → Option Obj) (l : Nat) (r : Loop) (rb Dk : Nat) (rows : List (Int × Int × Int)) (w : World) : Prop := LB B O l r rb Dk w ∧ ∀ d ∈ rows, ¬ 0 < d.2.1
def jX (B : Nat) (O : Nat → Option Obj) (l : Nat) (r : Loop) (rb Dk : Nat) (rows : List (Int × Int × Int)) (w : World) : Prop := LB B O l { r with state := .done, pending := some .ret } rb Dk w ∧ ∃ d ∈ rows, 0 < d.2.1

set_option maxRecDepth 100000 in
set_option maxHeartbeats 4000000 in
theorem asg32 : ∃ k, ∀ (B : Nat) (O : Nat → Option Obj) (l : Nat) (r : Loop) (rb Dk : Nat) (rows : List (Int × Int × Int)) (lv lack over : Int) (S : List (Nat × Obj)) (x0 x1 x3 x4 x5 x6 x7 _x8 _x9 x10 x11 : Value) (w : World), LR B O l r rb Dk S w →
    WpR PA.prog true Env DN 32 l (asgO Try.f32) k (fun a' w' => ∃ tb, a' = ⟨#[x0, x1, .pointer (some ⟨rb, 0, none⟩), x3, .pointer (some ⟨tb, 0, none⟩), x5, x6, x7, .int .i64 rows.length, .agg #[.int .i64 lv, .int .i64 lack, .int .i64 over], x10, x11], []⟩ ∧ HB1 (LR B O l r rb Dk S) tb (.cells #[.int .i64 lv, .int .i64 lack, .int .i64 over] 70) w') ⟨#[x0, x1, .pointer (some ⟨rb, 0, none⟩), x3, x4, x5, x6, x7, .int .i64 rows.length, .agg #[.int .i64 lv, .int .i64 lack, .int .i64 over], x10, x11], []⟩ w := by
  co_apply Exists.intro
  intro B O l r rb Dk rows lv lack over S x0 x1 x3 x4 x5 x6 x7 x8 x9 x10 x11 w hF
  co_apply wpR_region env_terms
  simp only [List.size_toArray, List.length_cons, List.length_nil, Nat.reduceAdd, Nat.zero_add, List.range, List.range.loop]
  co_apply opsR_cons_k env_terms (by rfl) rfl (by rfl)
  intro _ hR' K hK
  replace hF := LR.rely _ _ hF hR'
  clear hR'
  (skip)
  go_simp
  try (unfold stored; go_simp)
  refine hK _ _ ⟨?_, ?_⟩
  · (refine dn_new ?_; intro e he; have hm := mem_listed he; simp [go_sem, *] at hm)
  clear hK K
  try walk_nrm
  rename_i W
  have hne : ∀ p ∈ S, p.1 ≠ W.heap.size := fun p hp => Nat.ne_of_lt (hF.kp.lt p hp)
  have hB4 : B ≤ W.heap.size := hF.lb.old.le
  have lt : ∀ {b : Nat} {o : Obj}, W.heap[b]? = some o → W.heap.size ≠ b := fun h => Nat.ne_of_gt (Array.getElem?_eq_some_iff.1 h).1
  have n1 := lt hF.lb.lp
  have n2 := lt hF.lb.rs
  have n3 := lt hF.lb.df
  clear lt
  replace hF : HB1 (LR B O l r rb Dk S) W.heap.size (.cells #[.int .i64 0, .int .i64 0, .int .i64 0] 70) (W.alloc (.cells #[.int .i64 0, .int .i64 0, .int .i64 0] 70)) := ⟨hb_new W _, hF.alloc _ _ _⟩
  generalize W.heap.size = tb at hF hne hB4 n1 n2 n3 ⊢
  generalize W.alloc (.cells #[.int .i64 0, .int .i64 0, .int .i64 0] 70) = W' at hF ⊢
  co_apply opsR_cons_k env_terms (by rfl) rfl (by rfl)
  intro _ hR' K hK
  replace hF := HB1.rely LR.rely hF hR'
  clear hR'
  (have hb0 := hF.one.blk; have hc0 := cell_blk (i := 0) hb0 rfl; have hz0 := thaw_blk (i := 0) hb0; have hb1 := set_blk (i := 0) (v := .int .i64 lv) hb0; have hc1 := cell_blk (i := 1) hb1 rfl; have hz1 := thaw_blk (i := 1) hb1; have hb2 := set_blk (i := 1) (v := .int .i64 lack) hb1; have hc2 := cell_blk (i := 2) hb2 rfl; have hz2 := thaw_blk (i := 2) hb2)
  go_simp
  try (unfold stored; go_simp)
  refine hK _ _ ⟨?_, ?_⟩
  · (refine dn_cells (own_trans (own_setCell hb0) (own_trans (own_setCell hb1) (own_setCell hb2))) ?_; intro e he; have hm := mem_listed he; simp [go_sem, *] at hm; rcases hm with rfl | rfl | rfl <;> (intro r; simp))
  clear hK K
  try walk_nrm
  have st : ∀ {c : Array Value} {w : World} (i : Nat) (v : Value), HB1 (LR B O l r rb Dk S) tb (.cells c 70) w → HB1 (LR B O l r rb Dk S) tb (.cells (c.setIfInBounds i v) 70) (w.setCell ⟨tb, i, none⟩ v) := fun i v h =>
    ⟨⟨set_blk h.one.blk⟩, ⟨h.more.lb.set hB4 n1 n2 n3, h.more.kp.set_ne hne⟩⟩
  replace hF := st 2 (.int .i64 over) (st 1 (.int .i64 lack) (st 0 (.int .i64 lv) hF))
  co_apply opsR_nil env_terms
  exact ⟨tb, rfl, hF⟩

set_option maxRecDepth 100000 in
set_option maxHeartbeats 4000000 in
theorem b3_32 : ∃ k, ∀ (B : Nat) (O : Nat → Option Obj) (l : Nat) (r : Loop) (rb Dk tb : Nat) (lv lack over : Int) (S : List (Nat × Obj)) (x0 x1 x3 x5 x6 x7 x8 x9 x10 x11 : Value) (w : World), HB1 (LR B O l r rb Dk S) tb (.cells #[.int .i64 lv, .int .i64 lack, .int .i64 over] 70) w →
    WpR PA.prog true Env DN 32 l (b3L Try.f32) k (fun a' w' => a' = ⟨#[x0, x1, .pointer (some ⟨rb, 0, none⟩), x3, .pointer (some ⟨tb, 0, none⟩), x5, x6, x7, x8, x9, .agg #[.int .i64 lv, .int .i64 lack, .int .i64 over], .bool (decide (0 < lack))], []⟩ ∧ LR B O l r rb Dk S w') ⟨#[x0, x1, .pointer (some ⟨rb, 0, none⟩), x3, .pointer (some ⟨tb, 0, none⟩), x5, x6, x7, x8, x9, x10, x11], []⟩ w := by
  obtain ⟨k31, h31⟩ := f31_co
  co_apply Exists.intro
  intro B O l r rb Dk tb lv lack over S x0 x1 x3 x5 x6 x7 x8 x9 x10 x11 w hF
  co_apply wpR_region env_terms
  simp only [List.size_toArray, List.length_cons, List.length_nil, Nat.reduceAdd, Nat.zero_add, List.range, List.range.loop]
  co_apply opsR_cons_k env_terms (by rfl) rfl (by rfl)
  intro _ hR' K hK
  replace hF := HB1.rely LR.rely hF hR'
  clear hR'
  (have hc0 := cell_blk (i := 0) hF.one.blk rfl; have hc1 := cell_blk (i := 1) hF.one.blk rfl; have hc2 := cell_blk (i := 2) hF.one.blk rfl)
  go_simp
  try (unfold stored; go_simp)
  refine hK _ _ ⟨?_, ?_⟩
  · (refine dn_still ?_; intro e he; have hm := mem_listed he; simp [go_sem, *] at hm; rcases hm with rfl | rfl | rfl <;> (intro r; simp))
  clear hK K
  try walk_nrm
  clear hc0 hc1 hc2
  co_apply opsR_call env_terms rfl (by rfl) rfl (h31 (LR B O l r rb Dk S) LR.rely LR.alloc lv lack over _ hF.more) (by simp [Act.eval])
  rintro _ w4 ⟨rfl, hF4⟩
  walk_nrm
  co_apply opsR_nil env_terms
  exact ⟨rfl, hF4⟩

set_option maxRecDepth 100000 in
set_option maxHeartbeats 4000000 in
theorem b4_32 : ∃ k, ∀ (B : Nat) (O : Nat → Option Obj) (l : Nat) (r : Loop) (rb Dk : Nat) (S : List (Nat × Obj)) (x0 x1 x3 x4 x5 x6 x7 x8 x9 x10 x11 : Value) (w : World), LR B O l r rb Dk S w →
    WpR PA.prog true Env DN 32 l (b4L Try.f32) k (fun _ w' => LB B O l r rb Dk w') ⟨#[x0, x1, .pointer (some ⟨rb, 0, none⟩), x3, x4, x5, x6, x7, x8, x9, x10, x11], []⟩ w := by
  co_apply Exists.intro
  intro B O l r rb Dk S x0 x1 x3 x4 x5 x6 x7 x8 x9 x10 x11 w hF
  co_apply wpR_region env_terms
  simp only [List.size_toArray, List.length_cons, List.length_nil, Nat.zero_add, List.range, List.range.loop]
  co_apply opsR_cons_k env_terms (by rfl) rfl (by rfl)
  intro _ hR' K hK
  replace hF := LR.rely _ _ hF hR'
  clear hR'
  (have hc0 := cell_blk (i := 0) hF.lb.rs rfl; have hz0 := thaw_blk (i := 0) hF.lb.rs)
  go_simp
  try (unfold stored; go_simp)
  refine hK _ _ ⟨?_, ?_⟩
  · (refine dn_cells (own_setCell hF.lb.rs) ?_; intro e he; have hm := mem_listed he; simp [go_sem] at hm; rw [events_store _ _ _ _ _ _ rfl] at hm; simp [hc0, hz0] at hm; subst hm; (intro r; simp))
  clear hK K
  try walk_nrm
  co_apply opsR_nil env_terms
  exact hF.lb.setRs
end Go.Proofs.Ytpolipcicfjkiaa.Cy
/- lasts' body as the iterator meets it. Conditions: none. -/
namespace Go.Proofs.Ytpolipcicfjkiaa.Cy
open Go Go.Conc Go.RowKit Go.Proofs

theorem hb1_put {B : Nat} {O : Nat → Option Obj} {l : Nat} {r : Loop} {rb Dk tb : Nat} {S : List (Nat × Obj)} {c : Array Value} {e : TypeId} {w : World} (h : HB1 (LR B O l r rb Dk S) tb (.cells c e) w) (r' : Loop) : HB1 (LR B O l r' rb Dk S) tb (.cells c e) (w.putObj l (.loop r')) :=
  ⟨⟨by rw [World.putObj_heap_other (fun e' => by have := h.one.blk; rw [e', h.more.lb.lp] at this; cases this)]; exact h.one.blk⟩, ⟨h.more.lb.put r', h.more.kp.putLoop h.more.lb.lp⟩⟩

set_option maxHeartbeats 4000000 in
theorem body32 : ∃ kr, ∀ (B : Nat) (O : Nat → Option Obj) (l rb Dk : Nat) (x0 x1 x3 x4 x5 x6 x7 x8 x9 x10 x11 : Value),
    BodyOk2 kr B (jL B O l (recO Try.f32 #[x0, x1, .pointer (some ⟨rb, 0, none⟩), x3, x4, x5, x6, x7, x8, x9, x10, x11] Dk) rb Dk) (jX B O l (recO Try.f32 #[x0, x1, .pointer (some ⟨rb, 0, none⟩), x3, x4, x5, x6, x7, x8, x9, x10, x11] Dk) rb Dk) l (recO Try.f32 #[x0, x1, .pointer (some ⟨rb, 0, none⟩), x3, x4, x5, x6, x7, x8, x9, x10, x11] Dk) := by
  obtain ⟨n1, h1⟩ := asg32
  obtain ⟨n3, h3⟩ := b3_32
  obtain ⟨n4, h4⟩ := b4_32
  refine ⟨n1 + (1 + (1 + (1 + (n3 + (1 + (3 + (n4 + 2))))))), ?_⟩
  intro B O l rb Dk x0 x1 x3 x4 x5 x6 x7 x8 x9 x10 x11
  generalize hrec : recO Try.f32 #[x0, x1, .pointer (some ⟨rb, 0, none⟩), x3, x4, x5, x6, x7, x8, x9, x10, x11] Dk = rec
  have hr : rec.fn = 32 ∧ rec.assign = asgO Try.f32 ∧ rec.body = bodyO Try.f32 ∧ rec.state = .ready ∧ rec.pending = none ∧ rec.params = #[8, 9] ∧ rec.tmps = #[x0, x1, .pointer (some ⟨rb, 0, none⟩), x3, x4, x5, x6, x7, x8, x9, x10, x11] := by
    subst hrec
    exact ⟨rfl, rfl, rfl, rfl, rfl, rfl, rfl⟩
  obtain ⟨r1, r2, r3, r4, r5, r6, r7⟩ := hr
  refine ⟨fun rows w w₁ h e => ⟨h.1.rely e, h.2⟩, fun rows w c e h => ⟨h.1.alloc _, h.2⟩, fun rows w cb i v c e fr hcb h hb _ _ _ _ h4 => ⟨h.1.setTy hcb hb h4, h.2⟩, fun rows w h => h.1.lp, fun rows w h => h.1.old.le, fun rows w w₁ h e => ⟨h.1.rely e, h.2⟩, by rw [r6]; rfl, ?_⟩
  intro rows lv lack over S w h366 hJ hS c cs Stop m hc hx
  have hfold : (rec.params.zip #[.int .i64 rows.length, .agg #[.int .i64 lv, .int .i64 lack, .int .i64 over]]).foldl (fun tmps (t, x) => tmps.setIfInBounds t x) rec.tmps = #[x0, x1, .pointer (some ⟨rb, 0, none⟩), x3, x4, x5, x6, x7, .int .i64 rows.length, .agg #[.int .i64 lv, .int .i64 lack, .int .i64 over], x10, x11] := by
    rw [r6, r7]; simp
  rw [hfold, r1, r2, r3]
  have hg : Goes PA.prog true Env DN Stop ((m + (1 + (1 + (1 + (n3 + (1 + (3 + (n4 + 2)))))))) + n1) (G (({ (default : Frame) with fn := 32, kind := .normal, roundOf := some l } : Frame).atR ⟨#[x0, x1, .pointer (some ⟨rb, 0, none⟩), x3, x4, x5, x6, x7, .int .i64 rows.length, .agg #[.int .i64 lv, .int .i64 lack, .int .i64 over], x10, x11], []⟩ [.code (asgO Try.f32), .beginRound, .code (bodyO Try.f32)]) (c :: cs)) w := by
    refine h1 B O l rec rb Dk rows lv lack over S x0 x1 x3 x4 x5 x6 x7 x8 x9 x10 x11 w ⟨hJ.1, hS⟩ _ [.beginRound, .code (bodyO Try.f32)] (c :: cs) Stop _ rfl (by simp) rfl fun a₁ w₁ q => ?_
    obtain ⟨tb, rfl, hF⟩ := q
    have e1 : m + (1 + (1 + (1 + (n3 + (1 + (3 + (n4 + 2))))))) = (m + (1 + (1 + (n3 + (1 + (3 + (n4 + 2))))))) + 1 := by omega
    rw [e1]
    refine Goes.step rfl fun w₂ e2 => ?_
    have hF2 := HB1.rely LR.rely hF e2
    rw [stepR_begin rfl (by simp) hF2.more.lb.lp r4]
    refine ⟨dn_loop hF2.more.lb.lp (ev_begin hF2.more.lb.lp r4), ?_⟩
    have hF3 := hb1_put hF2 { rec with state := .busy }
    generalize w₂.putObj l (.loop { rec with state := .busy }) = w₃ at hF3 ⊢
    have e3 : m + (1 + (1 + (n3 + (1 + (3 + (n4 + 2)))))) = (m + (1 + (n3 + (1 + (3 + (n4 + 2)))))) + 1 := by omega
    rw [e3, bodyO_is]
    refine Goes.step rfl fun w₄ e4 => ?_
    rw [stepR_block]
    refine ⟨env_terms.idle _, ?_⟩
    have hF4 := HB1.rely LR.rely hF3 e4
    have e5 : m + (1 + (n3 + (1 + (3 + (n4 + 2))))) = (m + (n3 + (1 + (3 + (n4 + 2))))) + 1 := by omega
    rw [e5]
    refine Goes.step rfl fun w₅ e6 => ?_
    rw [stepR_seq]
    refine ⟨env_terms.idle _, ?_⟩
    have hF5 := HB1.rely LR.rely hF4 e6
    have e7 : m + (n3 + (1 + (3 + (n4 + 2)))) = (m + (1 + (3 + (n4 + 2)))) + n3 := by omega
    rw [e7]
    refine h3 B O l { rec with state := .busy } rb Dk tb lv lack over S x0 x1 x3 x5 x6 x7 (.int .i64 rows.length) (.agg #[.int .i64 lv, .int .i64 lack, .int .i64 over]) x10 x11 w₅ hF5 _ _ (c :: cs) Stop _ rfl (by simp) rfl fun a₂ w₆ q => ?_
    obtain ⟨rfl, hF6⟩ := q
    have e8 : m + (1 + (3 + (n4 + 2))) = (m + (3 + (n4 + 2))) + 1 := by omega
    rw [e8]
    refine Goes.step rfl fun w₇ e9 => ?_
    rw [stepR_cond (t := decide (0 < lack)) rfl]
    refine ⟨env_terms.idle _, ?_⟩
    have hF7 := LR.rely _ _ hF6 e9
    by_cases hl : 0 < lack
    · rw [decide_eq_true hl]
      simp only [if_true]
      refine Goes.mono (n := (m + 1 + n4) + 1) ?_ (by omega)
      refine Goes.step rfl fun w₈ e10 => ?_
      rw [stepR_seq]
      refine ⟨env_terms.idle _, ?_⟩
      refine h4 B O l { rec with state := .busy } rb Dk S _ _ _ _ _ _ _ _ _ _ _ w₈ (LR.rely _ _ hF7 e10) _ _ (c :: cs) Stop _ rfl (by simp) rfl fun a₃ w₉ q => ?_
      refine Goes.step rfl fun w10 e11 => ?_
      have hq := q.rely e11
      rw [stepR_ret rfl rfl hq.lp]
      exact ⟨dn_loop hq.lp (ev_endJ _ hq.lp), hx _ ⟨hq.put _, (lv, lack, over), by simp, hl⟩⟩
    · rw [decide_eq_false hl]
      simp only [Bool.false_eq_true, if_false]
      refine Goes.mono (n := (((m + 1) + 1) + 1)) ?_ (by omega)
      refine Goes.step rfl fun w₈ e10 => ?_
      rw [stepR_skip]
      refine ⟨env_terms.idle _, Goes.step rfl fun w₉ e11 => ?_⟩
      rw [stepR_inBlock]
      refine ⟨env_terms.idle _, Goes.step rfl fun w10 e12 => ?_⟩
      have hq := LR.rely _ _ (LR.rely _ _ (LR.rely _ _ hF7 e10) e11) e12
      rw [stepR_end rfl rfl hq.lb.lp]
      have hback : ({ ({ rec with state := .busy } : Loop) with state := .ready, pending := none } : Loop) = rec := by
        cases rec
        simp at r4 r5
        simp [r4, r5]
      refine ⟨dn_loop hq.lb.lp (ev_end hq.lb.lp), hc _ ⟨⟨?_, fun d hd => ?_⟩, hq.kp.putLoop hq.lb.lp⟩⟩
      · have := hq.lb.put rec
        rw [hback]
        exact this
      · rcases List.mem_append.1 hd with hd | hd
        · exact hJ.2 d hd
        · rw [List.mem_singleton.1 hd]; exact hl
  have e0 : m + (n1 + (1 + (1 + (1 + (n3 + (1 + (3 + (n4 + 2)))))))) = (m + (1 + (1 + (1 + (n3 + (1 + (3 + (n4 + 2)))))))) + n1 := by omega
  rw [e0]
  exact hg
end Go.Proofs.Ytpolipcicfjkiaa.Cy
/- A walk in company is one alone; lasts. Conditions: none. -/
namespace Go.Proofs.Ytpolipcicfjkiaa.Cy
open Go Go.Conc Go.RowKit Go.Proofs

theorem move_oneG {P : Program} {g : Goroutine} {w : World} (hr : g.status = .running) : move P (oneG g w) = .goroutine (oneG g w) 0 := by
  obtain ⟨fr, cs, st, dy, off⟩ := g
  simp only at hr
  subst hr
  simp [move, ask, askOn, oneG, runnable_eq, due, ahead, Goroutine.canRun, List.range_succ, choose, pure, Sem.run, Question.forced]
theorem step_oneG {P : Program} {g g' : Goroutine} {w w' : World} {es : Array Event} (hr : g.status = .running) (h : stepG P true g w = .go g' w' es) : step P (oneG g w) = .next (oneG g' w') := by
  rw [step, stepT, move_oneG hr]
  simp [runT, oneG, Array.swapAt!, h]

theorem steps_of_goes {P : Program} {R : World → World → Prop} {D : World → World → Array Event → Prop} {S : Goroutine → World → Prop} (hR : ∀ w, R w w) : ∀ (n : Nat) (g : Goroutine) (w : World), Goes P true R D S n g w → ∃ g' w', Steps P (oneG g w) (oneG g' w') ∧ S g' w'
  | 0, g, w, h => ⟨g, w, Steps.refl _ _, h w (hR w)⟩
  | n + 1, g, w, h => by
    rcases h with h | ⟨hs, h⟩
    · exact ⟨g, w, Steps.refl _ _, h w (hR w)⟩
    · have hh := h w (hR w)
      revert hh
      cases hst : stepG P true g w <;> first | exact fun h => h.elim | skip
      rename_i g1 w1 es
      rintro ⟨_, hg⟩
      obtain ⟨g', w', h1, h2⟩ := steps_of_goes hR n g1 w1 hg
      exact ⟨g', w', (Steps.one (step_oneG hs hst)).trans h1, h2⟩
end Go.Proofs.Ytpolipcicfjkiaa.Cy
