/- The caller's regions, in company, in the view. Conditions: none. -/
import Derived.Test.YtpolipcicfjkiaaK20
import Derived.Laws.EntriesVeiled
import Derived.Test.YtpolipcicfjkiaaK18
namespace Go.Proofs.Ytpolipcicfjkiaa.Cy
open Go Go.Conc Go.RowKit Go.Proofs

def sqL : Code → Code | .seq a _ => a | c => c
def sqR : Code → Code | .seq _ b => b | c => c
def blC : Code → Code | .block _ c => c | c => c
def lpC : Code → Code | .loop c => c | c => c
def opsO : Code → Array Oper | .region _ o _ => o | _ => #[]
/-- both's code: R0; (R1; ((R2; {L}); (R8; (R9; ret)))). -/
def b28 (f : Func) : Code := codeOf f
def m28 (f : Func) : Code := sqL (sqR (sqR (b28 f)))
def e28 (f : Func) : Code := sqR (sqR (sqR (b28 f)))
def l28 (f : Func) : Code := lpC (blC (sqR (m28 f)))
/-- In the loop: R3; (cond; ([1: R4; (R5; R6)]; R7)). -/
def i28 (f : Func) : Code := sqL (sqR (sqR (l28 f)))
def r28 (f : Func) : Nat → Code
  | 0 => sqL (b28 f)
  | 1 => sqL (sqR (b28 f))
  | 2 => sqL (m28 f)
  | 3 => sqL (l28 f)
  | 4 => sqL (blC (i28 f))
  | 5 => sqL (sqR (blC (i28 f)))
  | 6 => sqR (sqR (blC (i28 f)))
  | 7 => sqR (sqR (sqR (l28 f)))
  | 8 => sqL (e28 f)
  | _ => sqL (sqR (e28 f))
theorem b28_is : b28 Try.f28 = .seq (r28 Try.f28 0) (.seq (r28 Try.f28 1) (.seq (m28 Try.f28) (e28 Try.f28))) := rfl
theorem m28_is : m28 Try.f28 = .seq (r28 Try.f28 2) (.block 0 (.loop (l28 Try.f28))) := rfl
theorem l28_is : l28 Try.f28 = .seq (r28 Try.f28 3) (.seq (.cond (.tmp 14) .skip (.exit 0)) (.seq (i28 Try.f28) (r28 Try.f28 7))) := rfl
theorem i28_is : i28 Try.f28 = .block 1 (.seq (r28 Try.f28 4) (.seq (r28 Try.f28 5) (r28 Try.f28 6))) := rfl
theorem e28_is : e28 Try.f28 = .seq (r28 Try.f28 8) (.seq (r28 Try.f28 9) .ret) := rfl

/-- Blocks that stand (of whatever kind). -/
def Stand' (S : List (Nat × Obj)) (w : World) : Prop := ∀ p ∈ S, w.heap[p.1]? = some p.2
theorem Stand'.rely {S : List (Nat × Obj)} {w w₁ : World} (h : Stand' S w) (r : Env w w₁) : Stand' S w₁ := fun p hp => env_at r (h p hp)
theorem Stand'.alloc {S : List (Nat × Obj)} {w : World} (h : Stand' S w) (o : Obj) : Stand' S (w.alloc o) := fun p hp => (hb_old ⟨h p hp⟩ o).blk
theorem Stand'.set {S : List (Nat × Obj)} {w : World} (h : Stand' S w) {ad : Addr} {v : Value} (hne : ∀ p ∈ S, p.1 ≠ ad.block) : Stand' S (w.setCell ad v) := fun p hp => heap_set_ne (h p hp) (hne p hp)
theorem Stand'.low {S : List (Nat × Obj)} {w : World} (h : Stand' S w) : ∀ p ∈ S, p.1 < w.heap.size := fun p hp => (Array.getElem?_eq_some_iff.1 (h p hp)).1
theorem Stand'.cons {S : List (Nat × Obj)} {w : World} (h : Stand' S w) {b : Nat} {o : Obj} (hb : w.heap[b]? = some o) : Stand' ((b, o) :: S) w := by
  intro p hp
  rcases List.mem_cons.1 hp with rfl | hp
  · exact hb
  · exact h p hp
theorem Stand'.at {S : List (Nat × Obj)} {w : World} (h : Stand' S w) {b : Nat} {o : Obj} (hp : (b, o) ∈ S) : w.heap[b]? = some o := h _ hp

theorem rb90 (a : Addr) (c : Value) (w : World) (g : Nat) : (Instr.build 90 #[(0, .pointer (some a)), (1, .func (.func g) #[] #[c])]).run PA.prog w = .ok (.agg #[.pointer (some a), .func (.func g) #[] #[c]]) w := run_build w 90 _ _ (by kernel_rfl)
theorem eb90 (a : Addr) (c : Value) (w : World) (g : Nat) (es : Array Event) : (Instr.build 90 #[(0, .pointer (some a)), (1, .func (.func g) #[] #[c])]).events PA.prog w es = es := by kernel_rfl
theorem rbs91 (a b : Addr) (c d : Value) (w : World) (g g' : Nat) : (Instr.buildSlice 91 2 #[(0, .agg #[.pointer (some a), .func (.func g) #[] #[c]]), (1, .agg #[.pointer (some b), .func (.func g') #[] #[d]])]).run PA.prog w = .ok (.slice (some ⟨w.heap.size, 0, none⟩) 2 2) (w.alloc (.cells #[.pointer (some a), .func (.func g) #[] #[c], .pointer (some b), .func (.func g') #[] #[d]] 90)) := by
  kernel_rfl
theorem ebs91 (a b : Addr) (c d : Value) (w : World) (g g' : Nat) (es : Array Event) : (Instr.buildSlice 91 2 #[(0, .agg #[.pointer (some a), .func (.func g) #[] #[c]]), (1, .agg #[.pointer (some b), .func (.func g') #[] #[d]])]).events PA.prog w es = es := by kernel_rfl
theorem events_store_fn {P : Program} {w : World} {es : Array Event} (a : Addr) (fn : Fn) (x c : Array Value) (m : Mode) : (store a (.func fn x c) m).events P w es = storedEv P w es a (.func fn x c) m := events_store P w es a _ m rfl
/-- What the slice of both's two kinds of worker holds. -/
def two28 (yb db wb : Nat) : Obj := .cells #[.pointer (some ⟨db, 0, none⟩), .func (.func 44) #[] #[.pointer (some ⟨yb, 0, none⟩)], .pointer (some ⟨wb, 0, none⟩), .func (.func 45) #[] #[.pointer (some ⟨yb, 0, none⟩)]] 90

set_option maxRecDepth 100000 in
set_option maxHeartbeats 4000000 in
theorem r2_k (S : List (Nat × Obj)) (yb db wb Wg : Nat) (x0 x5 x6 x7 x8 x9 x10 x11 x12 x13 x14 x15 x16 x17 x18 x19 x20 x21 x22 : Value) (w : World) (hF : Stand' S w) : OpsK PA.prog Env DN 28 (opsO (r28 Try.f28 2)) [0, 1, 2, 3, 4, 5, 6] (fun a' w' => ∃ lb, a' = ⟨#[x0, .pointer (some ⟨yb, 0, none⟩), .pointer (some ⟨db, 0, none⟩), .pointer (some ⟨wb, 0, none⟩), .pointer (some ⟨Wg, 0, none⟩), x5, x6, .func (.func 44) #[] #[.pointer (some ⟨yb, 0, none⟩)], .agg #[.pointer (some ⟨db, 0, none⟩), .func (.func 44) #[] #[.pointer (some ⟨yb, 0, none⟩)]], .func (.func 45) #[] #[.pointer (some ⟨yb, 0, none⟩)], .agg #[.pointer (some ⟨wb, 0, none⟩), .func (.func 45) #[] #[.pointer (some ⟨yb, 0, none⟩)]], .slice (some ⟨lb, 0, none⟩) 2 2, .int .i64 2, .int .i64 0, x14, x15, x16, x17, x18, x19, x20, x21, x22], []⟩ ∧ Stand' ((lb, two28 yb db wb) :: S) w')
    ⟨#[x0, .pointer (some ⟨yb, 0, none⟩), .pointer (some ⟨db, 0, none⟩), .pointer (some ⟨wb, 0, none⟩), .pointer (some ⟨Wg, 0, none⟩), x5, x6, x7, x8, x9, x10, x11, x12, x13, x14, x15, x16, x17, x18, x19, x20, x21, x22], []⟩ w := by
  have hmk := fun (w : World) (es : Array Event) (f : Nat) (a : Value) => show (Instr.makeFunc (Fn.func f) #[] #[a]).events PA.prog w es = es from by simp [Instr.makeFunc]
  have hrb := rb90
  have heb := eb90
  have hrs := rbs91
  have hes := ebs91
  unfold r28
  simp only [opsO, m28, b28, codeOf, sqL, sqR, Try.f28]
  refine opsK_cons_k rfl (by rfl) ?_
  intro _ hR' K hK
  replace hF := Stand'.rely hF hR'
  clear hR'
  (skip)
  go_simp
  try (unfold stored; go_simp)
  refine hK _ _ ⟨?_, ?_⟩
  · (rw [listed_nil (by simp [go_sem]; exact hmk _ _ _ _)]; exact Terms.idle env_terms _)
  clear hK K
  try walk_nrm
  refine opsK_cons_k rfl (by rfl) ?_
  intro _ hR' K hK
  replace hF := Stand'.rely hF hR'
  clear hR'
  (skip)
  go_simp
  try (unfold stored; go_simp)
  refine hK _ _ ⟨?_, ?_⟩
  · (rw [listed_nil (by simp [go_sem]; exact heb _ _ _ _ _)]; exact Terms.idle env_terms _)
  clear hK K
  try walk_nrm
  refine opsK_cons_k rfl (by rfl) ?_
  intro _ hR' K hK
  replace hF := Stand'.rely hF hR'
  clear hR'
  (skip)
  go_simp
  try (unfold stored; go_simp)
  refine hK _ _ ⟨?_, ?_⟩
  · (rw [listed_nil (by simp [go_sem]; exact hmk _ _ _ _)]; exact Terms.idle env_terms _)
  clear hK K
  try walk_nrm
  refine opsK_cons_k rfl (by rfl) ?_
  intro _ hR' K hK
  replace hF := Stand'.rely hF hR'
  clear hR'
  (skip)
  go_simp
  try (unfold stored; go_simp)
  refine hK _ _ ⟨?_, ?_⟩
  · (rw [listed_nil (by simp [go_sem]; exact heb _ _ _ _ _)]; exact Terms.idle env_terms _)
  clear hK K
  try walk_nrm
  refine opsK_cons_k rfl (by rfl) ?_
  intro _ hR' K hK
  replace hF := Stand'.rely hF hR'
  clear hR'
  (skip)
  go_simp
  try (unfold stored; go_simp)
  refine hK _ _ ⟨?_, ?_⟩
  · (refine dn_new ?_; intro e he; have hm := mem_listed he; first | (simp [go_sem] at hm; done) | (simp [go_sem] at hm; rw [hes] at hm; simp at hm))
  clear hK K
  try walk_nrm
  rename_i W
  replace hF := (hF.alloc (.cells #[.pointer (some ⟨db, 0, none⟩), .func (.func 44) #[] #[.pointer (some ⟨yb, 0, none⟩)], .pointer (some ⟨wb, 0, none⟩), .func (.func 45) #[] #[.pointer (some ⟨yb, 0, none⟩)]] 90)).cons (hb_new W _).blk
  generalize W.heap.size = lb at hF ⊢
  generalize W.alloc (.cells #[.pointer (some ⟨db, 0, none⟩), .func (.func 44) #[] #[.pointer (some ⟨yb, 0, none⟩)], .pointer (some ⟨wb, 0, none⟩), .func (.func 45) #[] #[.pointer (some ⟨yb, 0, none⟩)]] 90) = W' at hF ⊢
  refine opsK_cons_k rfl (by rfl) ?_
  intro _ hR' K hK
  replace hF := Stand'.rely hF hR'
  clear hR'
  (skip)
  go_simp
  try (unfold stored; go_simp)
  refine hK _ _ ⟨?_, ?_⟩
  · (rw [listed_nil (by simp [go_sem])]; exact env_terms.idle _)
  clear hK K
  try walk_nrm
  refine opsK_cons_k rfl (by rfl) ?_
  intro _ hR' K hK
  replace hF := Stand'.rely hF hR'
  clear hR'
  (skip)
  go_simp
  try (unfold stored; go_simp)
  refine hK _ _ ⟨?_, ?_⟩
  · (rw [listed_nil (by simp [go_sem])]; exact env_terms.idle _)
  clear hK K
  try walk_nrm
  exact ⟨lb, rfl, hF⟩

set_option maxRecDepth 100000 in
set_option maxHeartbeats 4000000 in
theorem r3_k (S : List (Nat × Obj)) (yb db wb Wg lb : Nat) (i : Int) (x0 x5 x6 x7 x8 x9 x10 x14 x15 x16 x17 x18 x19 x20 x21 x22 : Value) (w : World) (hF : Stand' S w) : OpsK PA.prog Env DN 28 (opsO (r28 Try.f28 3)) [0] (fun a' w' => a' = ⟨#[x0, .pointer (some ⟨yb, 0, none⟩), .pointer (some ⟨db, 0, none⟩), .pointer (some ⟨wb, 0, none⟩), .pointer (some ⟨Wg, 0, none⟩), x5, x6, x7, x8, x9, x10, .slice (some ⟨lb, 0, none⟩) 2 2, .int .i64 2, .int .i64 i, .bool (decide (i < 2)), x15, x16, x17, x18, x19, x20, x21, x22], []⟩ ∧ Stand' S w')
    ⟨#[x0, .pointer (some ⟨yb, 0, none⟩), .pointer (some ⟨db, 0, none⟩), .pointer (some ⟨wb, 0, none⟩), .pointer (some ⟨Wg, 0, none⟩), x5, x6, x7, x8, x9, x10, .slice (some ⟨lb, 0, none⟩) 2 2, .int .i64 2, .int .i64 i, x14, x15, x16, x17, x18, x19, x20, x21, x22], []⟩ w := by
  unfold r28
  simp only [opsO, l28, m28, b28, codeOf, sqL, sqR, blC, lpC, Try.f28]
  refine opsK_cons_k rfl (by rfl) ?_
  intro _ hR' K hK
  replace hF := Stand'.rely hF hR'
  clear hR'
  (skip)
  go_simp
  try (unfold stored; go_simp)
  refine hK _ _ ⟨?_, ?_⟩
  · (rw [listed_nil (by simp [go_sem])]; exact env_terms.idle _)
  clear hK K
  try walk_nrm
  exact ⟨rfl, hF⟩

set_option maxRecDepth 100000 in
set_option maxHeartbeats 4000000 in
theorem r7_k (S : List (Nat × Obj)) (yb db wb Wg lb : Nat) (i : Int) (x0 x5 x6 x7 x8 x9 x10 x14 x15 x16 x17 x18 x19 x20 x21 x22 : Value) (w : World) (hF : Stand' S w) : OpsK PA.prog Env DN 28 (opsO (r28 Try.f28 7)) [0, 1] (fun a' w' => a' = ⟨#[x0, .pointer (some ⟨yb, 0, none⟩), .pointer (some ⟨db, 0, none⟩), .pointer (some ⟨wb, 0, none⟩), .pointer (some ⟨Wg, 0, none⟩), x5, x6, x7, x8, x9, x10, .slice (some ⟨lb, 0, none⟩) 2 2, .int .i64 2, .int .i64 (IntKind.i64.wrap (i + 1)), x14, x15, x16, x17, x18, .int .i64 (IntKind.i64.wrap (i + 1)), x20, x21, x22], []⟩ ∧ Stand' S w')
    ⟨#[x0, .pointer (some ⟨yb, 0, none⟩), .pointer (some ⟨db, 0, none⟩), .pointer (some ⟨wb, 0, none⟩), .pointer (some ⟨Wg, 0, none⟩), x5, x6, x7, x8, x9, x10, .slice (some ⟨lb, 0, none⟩) 2 2, .int .i64 2, .int .i64 i, x14, x15, x16, x17, x18, x19, x20, x21, x22], []⟩ w := by
  unfold r28
  simp only [opsO, l28, m28, b28, codeOf, sqL, sqR, blC, lpC, Try.f28]
  refine opsK_cons_k rfl (by rfl) ?_
  intro _ hR' K hK
  replace hF := Stand'.rely hF hR'
  clear hR'
  (skip)
  go_simp
  try (unfold stored; go_simp)
  refine hK _ _ ⟨?_, ?_⟩
  · (rw [listed_nil (by simp [go_sem])]; exact env_terms.idle _)
  clear hK K
  try walk_nrm
  refine opsK_cons_k rfl (by rfl) ?_
  intro _ hR' K hK
  replace hF := Stand'.rely hF hR'
  clear hR'
  (skip)
  go_simp
  try (unfold stored; go_simp)
  refine hK _ _ ⟨?_, ?_⟩
  · (rw [listed_nil (by simp [go_sem])]; exact env_terms.idle _)
  clear hK K
  try walk_nrm
  exact ⟨rfl, hF⟩

set_option maxRecDepth 100000 in
set_option maxHeartbeats 4000000 in
theorem r4_k0 (S : List (Nat × Obj)) (yb db wb Wg lb : Nat) (hl : (lb, two28 yb db wb) ∈ S) (x0 x5 x6 x7 x8 x9 x10 x14 x15 x16 x17 x18 x19 x20 x21 x22 : Value) (w : World) (hF : Stand' S w) : OpsK PA.prog Env DN 28 (opsO (r28 Try.f28 4)) [0, 1, 2, 3] (fun a' w' => ∃ onb, a' = ⟨#[x0, .pointer (some ⟨yb, 0, none⟩), .pointer (some ⟨db, 0, none⟩), .pointer (some ⟨wb, 0, none⟩), .pointer (some ⟨Wg, 0, none⟩), x5, .pointer (some ⟨onb, 0, none⟩), x7, x8, x9, x10, .slice (some ⟨lb, 0, none⟩) 2 2, .int .i64 2, .int .i64 0, x14, .pointer (some ⟨lb, 0, none⟩), .agg #[.pointer (some ⟨db, 0, none⟩), .func (.func 44) #[] #[.pointer (some ⟨yb, 0, none⟩)]], x17, x18, x19, x20, x21, x22], []⟩ ∧ Stand' ((onb, .cells #[.pointer (some ⟨db, 0, none⟩), .func (.func 44) #[] #[.pointer (some ⟨yb, 0, none⟩)]] 90) :: S) w')
    ⟨#[x0, .pointer (some ⟨yb, 0, none⟩), .pointer (some ⟨db, 0, none⟩), .pointer (some ⟨wb, 0, none⟩), .pointer (some ⟨Wg, 0, none⟩), x5, x6, x7, x8, x9, x10, .slice (some ⟨lb, 0, none⟩) 2 2, .int .i64 2, .int .i64 0, x14, x15, x16, x17, x18, x19, x20, x21, x22], []⟩ w := by
  unfold r28
  simp only [opsO, i28, l28, m28, b28, codeOf, sqL, sqR, blC, lpC, Try.f28]
  refine opsK_cons_k rfl (by rfl) ?_
  intro _ hR' K hK
  replace hF := Stand'.rely hF hR'
  clear hR'
  (have h2 : 0 < 2 := by decide)
  go_simp
  try (unfold stored; go_simp)
  refine hK _ _ ⟨?_, ?_⟩
  · (rw [listed_nil (by simp [go_sem, *])]; exact env_terms.idle _)
  clear hK K
  try walk_nrm
  clear h2
  refine opsK_cons_k rfl (by rfl) ?_
  intro _ hR' K hK
  replace hF := Stand'.rely hF hR'
  clear hR'
  (have hc0 := cell_blk (i := 0) (hF.at hl) rfl; have hc1 := cell_blk (i := 1) (hF.at hl) rfl)
  go_simp
  try (unfold stored; go_simp)
  refine hK _ _ ⟨?_, ?_⟩
  · (refine dn_still ?_; intro e he; have hm := mem_listed he; simp [go_sem, *] at hm; rcases hm with rfl | rfl <;> (intro r; simp))
  clear hK K
  try walk_nrm
  clear hc0 hc1
  refine opsK_cons_k rfl (by rfl) ?_
  intro _ hR' K hK
  replace hF := Stand'.rely hF hR'
  clear hR'
  (skip)
  go_simp
  try (unfold stored; go_simp)
  refine hK _ _ ⟨?_, ?_⟩
  · (refine dn_new ?_; intro e he; have hm := mem_listed he; simp [go_sem, *] at hm)
  clear hK K
  try walk_nrm
  rename_i W
  have hne : ∀ p ∈ S, p.1 ≠ W.heap.size := fun p hp => Nat.ne_of_lt (hF.low p hp)
  have hG : HB1 (Stand' S) W.heap.size (.cells #[.pointer none, .nilFunc] 90) (W.alloc (.cells #[.pointer none, .nilFunc] 90)) := ⟨hb_new W _, hF.alloc _⟩
  clear hF
  generalize W.heap.size = onb at hG hne ⊢
  generalize W.alloc (.cells #[.pointer none, .nilFunc] 90) = W' at hG ⊢
  refine opsK_cons_k rfl (by rfl) ?_
  intro _ hR' K hK
  replace hG := HB1.rely (fun _ _ h r => Stand'.rely h r) hG hR'
  clear hR'
  (have hb0 := hG.one.blk; have hc0 := cell_blk (i := 0) hb0 rfl; have hz0 := thaw_blk (i := 0) hb0; have hb1 := set_blk (i := 0) (v := .pointer (some ⟨db, 0, none⟩)) hb0; have hc1 := cell_blk (i := 1) hb1 rfl; have hz1 := thaw_blk (i := 1) hb1)
  go_simp
  try (unfold stored; go_simp)
  refine hK _ _ ⟨?_, ?_⟩
  · (refine dn_cells (own_trans (own_setCell hb0) (own_setCell hb1)) ?_; intro e he; have hm := mem_listed he; simp [go_sem, hc0, hz0] at hm; rw [events_store_fn, events_store _ _ _ _ _ _ rfl] at hm; simp [storedEv, hc0, hz0, hc1, hz1] at hm; rcases hm with rfl | rfl <;> (intro r; simp))
  clear hK K
  try walk_nrm
  have hF := Stand'.cons ((hG.more.set (ad := ⟨onb, 0, none⟩) (v := .pointer (some ⟨db, 0, none⟩)) hne).set (ad := ⟨onb, 1, none⟩) (v := .func (.func 44) #[] #[.pointer (some ⟨yb, 0, none⟩)]) hne) (set_blk (i := 1) (v := .func (.func 44) #[] #[.pointer (some ⟨yb, 0, none⟩)]) hb1)
  clear hG
  exact ⟨onb, rfl, hF⟩

set_option maxRecDepth 100000 in
set_option maxHeartbeats 4000000 in
theorem r6_k0 (yb db wb Wg lb onb : Nat) (x0 x5 x7 x8 x9 x10 x17 x18 x19 x20 x21 x22 : Value) (w : World) : ∃ o : Oper, (opsO (r28 Try.f28 6))[0]? = some o ∧ Region.wanted o (yielded (opsO (r28 Try.f28 6)) (⟨#[x0, .pointer (some ⟨yb, 0, none⟩), .pointer (some ⟨db, 0, none⟩), .pointer (some ⟨wb, 0, none⟩), .pointer (some ⟨Wg, 0, none⟩), x5, .pointer (some ⟨onb, 0, none⟩), x7, x8, x9, x10, .slice (some ⟨lb, 0, none⟩) 2 2, .int .i64 2, .int .i64 0, .bool true, .pointer (some ⟨lb, 0, none⟩), .agg #[.pointer (some ⟨db, 0, none⟩), .func (.func 44) #[] #[.pointer (some ⟨yb, 0, none⟩)]], x17, x18, x19, x20, x21, x22], []⟩ : Act).tmps) = true ∧ o.dst = some 18 ∧ (execOp (⟨#[x0, .pointer (some ⟨yb, 0, none⟩), .pointer (some ⟨db, 0, none⟩), .pointer (some ⟨wb, 0, none⟩), .pointer (some ⟨Wg, 0, none⟩), x5, .pointer (some ⟨onb, 0, none⟩), x7, x8, x9, x10, .slice (some ⟨lb, 0, none⟩) 2 2, .int .i64 2, .int .i64 0, .bool true, .pointer (some ⟨lb, 0, none⟩), .agg #[.pointer (some ⟨db, 0, none⟩), .func (.func 44) #[] #[.pointer (some ⟨yb, 0, none⟩)]], x17, x18, x19, x20, x21, x22], []⟩ : Act).eval o).run Try.prog w = .ok (.value (.func (.func 47) #[] #[.pointer (some ⟨Wg, 0, none⟩), .pointer (some ⟨yb, 0, none⟩), .pointer (some ⟨onb, 0, none⟩)])) w ∧
    (execOp (⟨#[x0, .pointer (some ⟨yb, 0, none⟩), .pointer (some ⟨db, 0, none⟩), .pointer (some ⟨wb, 0, none⟩), .pointer (some ⟨Wg, 0, none⟩), x5, .pointer (some ⟨onb, 0, none⟩), x7, x8, x9, x10, .slice (some ⟨lb, 0, none⟩) 2 2, .int .i64 2, .int .i64 0, .bool true, .pointer (some ⟨lb, 0, none⟩), .agg #[.pointer (some ⟨db, 0, none⟩), .func (.func 44) #[] #[.pointer (some ⟨yb, 0, none⟩)]], x17, x18, x19, x20, x21, x22], []⟩ : Act).eval o).events Try.prog w #[] = #[] := by
  obtain ⟨o, h1, h2, h3, h4⟩ : ∃ o : Oper, (opsO (r28 Try.f28 6))[0]? = some o ∧ o.op = .makeFunc (.func 47) #[] #[.tmp 4, .tmp 1, .tmp 6] ∧ o.guard = none ∧ o.dst = some 18 := ⟨_, rfl, rfl, rfl, rfl⟩
  refine ⟨o, h1, by simp [Region.wanted, h3], h4, ?_, ?_⟩
  · unfold execOp
    simp [h2, go_sem, Act.eval, Instr.makeFunc]
  · unfold execOp
    simp [h2, go_sem, Act.eval, Instr.makeFunc]

set_option maxRecDepth 100000 in
set_option maxHeartbeats 4000000 in
theorem r4_k1 (S : List (Nat × Obj)) (yb db wb Wg lb : Nat) (hl : (lb, two28 yb db wb) ∈ S) (x0 x5 x6 x7 x8 x9 x10 x14 x15 x16 x17 x18 x19 x20 x21 x22 : Value) (w : World) (hF : Stand' S w) : OpsK PA.prog Env DN 28 (opsO (r28 Try.f28 4)) [0, 1, 2, 3] (fun a' w' => ∃ onb, a' = ⟨#[x0, .pointer (some ⟨yb, 0, none⟩), .pointer (some ⟨db, 0, none⟩), .pointer (some ⟨wb, 0, none⟩), .pointer (some ⟨Wg, 0, none⟩), x5, .pointer (some ⟨onb, 0, none⟩), x7, x8, x9, x10, .slice (some ⟨lb, 0, none⟩) 2 2, .int .i64 2, .int .i64 1, x14, .pointer (some ⟨lb, 2, none⟩), .agg #[.pointer (some ⟨wb, 0, none⟩), .func (.func 45) #[] #[.pointer (some ⟨yb, 0, none⟩)]], x17, x18, x19, x20, x21, x22], []⟩ ∧ Stand' ((onb, .cells #[.pointer (some ⟨wb, 0, none⟩), .func (.func 45) #[] #[.pointer (some ⟨yb, 0, none⟩)]] 90) :: S) w')
    ⟨#[x0, .pointer (some ⟨yb, 0, none⟩), .pointer (some ⟨db, 0, none⟩), .pointer (some ⟨wb, 0, none⟩), .pointer (some ⟨Wg, 0, none⟩), x5, x6, x7, x8, x9, x10, .slice (some ⟨lb, 0, none⟩) 2 2, .int .i64 2, .int .i64 1, x14, x15, x16, x17, x18, x19, x20, x21, x22], []⟩ w := by
  unfold r28
  simp only [opsO, i28, l28, m28, b28, codeOf, sqL, sqR, blC, lpC, Try.f28]
  refine opsK_cons_k rfl (by rfl) ?_
  intro _ hR' K hK
  replace hF := Stand'.rely hF hR'
  clear hR'
  (have h2 : 1 < 2 := by decide)
  go_simp
  try (unfold stored; go_simp)
  refine hK _ _ ⟨?_, ?_⟩
  · (rw [listed_nil (by simp [go_sem, *])]; exact env_terms.idle _)
  clear hK K
  try walk_nrm
  clear h2
  refine opsK_cons_k rfl (by rfl) ?_
  intro _ hR' K hK
  replace hF := Stand'.rely hF hR'
  clear hR'
  (have hc0 := cell_blk (i := 2) (hF.at hl) rfl; have hc1 := cell_blk (i := 3) (hF.at hl) rfl)
  go_simp
  try (unfold stored; go_simp)
  refine hK _ _ ⟨?_, ?_⟩
  · (refine dn_still ?_; intro e he; have hm := mem_listed he; simp [go_sem, *] at hm; rcases hm with rfl | rfl <;> (intro r; simp))
  clear hK K
  try walk_nrm
  clear hc0 hc1
  refine opsK_cons_k rfl (by rfl) ?_
  intro _ hR' K hK
  replace hF := Stand'.rely hF hR'
  clear hR'
  (skip)
  go_simp
  try (unfold stored; go_simp)
  refine hK _ _ ⟨?_, ?_⟩
  · (refine dn_new ?_; intro e he; have hm := mem_listed he; simp [go_sem, *] at hm)
  clear hK K
  try walk_nrm
  rename_i W
  have hne : ∀ p ∈ S, p.1 ≠ W.heap.size := fun p hp => Nat.ne_of_lt (hF.low p hp)
  have hG : HB1 (Stand' S) W.heap.size (.cells #[.pointer none, .nilFunc] 90) (W.alloc (.cells #[.pointer none, .nilFunc] 90)) := ⟨hb_new W _, hF.alloc _⟩
  clear hF
  generalize W.heap.size = onb at hG hne ⊢
  generalize W.alloc (.cells #[.pointer none, .nilFunc] 90) = W' at hG ⊢
  refine opsK_cons_k rfl (by rfl) ?_
  intro _ hR' K hK
  replace hG := HB1.rely (fun _ _ h r => Stand'.rely h r) hG hR'
  clear hR'
  (have hb0 := hG.one.blk; have hc0 := cell_blk (i := 0) hb0 rfl; have hz0 := thaw_blk (i := 0) hb0; have hb1 := set_blk (i := 0) (v := .pointer (some ⟨wb, 0, none⟩)) hb0; have hc1 := cell_blk (i := 1) hb1 rfl; have hz1 := thaw_blk (i := 1) hb1)
  go_simp
  try (unfold stored; go_simp)
  refine hK _ _ ⟨?_, ?_⟩
  · (refine dn_cells (own_trans (own_setCell hb0) (own_setCell hb1)) ?_; intro e he; have hm := mem_listed he; simp [go_sem, hc0, hz0] at hm; rw [events_store_fn, events_store _ _ _ _ _ _ rfl] at hm; simp [storedEv, hc0, hz0, hc1, hz1] at hm; rcases hm with rfl | rfl <;> (intro r; simp))
  clear hK K
  try walk_nrm
  have hF := Stand'.cons ((hG.more.set (ad := ⟨onb, 0, none⟩) (v := .pointer (some ⟨wb, 0, none⟩)) hne).set (ad := ⟨onb, 1, none⟩) (v := .func (.func 45) #[] #[.pointer (some ⟨yb, 0, none⟩)]) hne) (set_blk (i := 1) (v := .func (.func 45) #[] #[.pointer (some ⟨yb, 0, none⟩)]) hb1)
  clear hG
  exact ⟨onb, rfl, hF⟩

set_option maxRecDepth 100000 in
set_option maxHeartbeats 4000000 in
theorem r6_k1 (yb db wb Wg lb onb : Nat) (x0 x5 x7 x8 x9 x10 x17 x18 x19 x20 x21 x22 : Value) (w : World) : ∃ o : Oper, (opsO (r28 Try.f28 6))[0]? = some o ∧ Region.wanted o (yielded (opsO (r28 Try.f28 6)) (⟨#[x0, .pointer (some ⟨yb, 0, none⟩), .pointer (some ⟨db, 0, none⟩), .pointer (some ⟨wb, 0, none⟩), .pointer (some ⟨Wg, 0, none⟩), x5, .pointer (some ⟨onb, 0, none⟩), x7, x8, x9, x10, .slice (some ⟨lb, 0, none⟩) 2 2, .int .i64 2, .int .i64 1, .bool true, .pointer (some ⟨lb, 2, none⟩), .agg #[.pointer (some ⟨wb, 0, none⟩), .func (.func 45) #[] #[.pointer (some ⟨yb, 0, none⟩)]], x17, x18, x19, x20, x21, x22], []⟩ : Act).tmps) = true ∧ o.dst = some 18 ∧ (execOp (⟨#[x0, .pointer (some ⟨yb, 0, none⟩), .pointer (some ⟨db, 0, none⟩), .pointer (some ⟨wb, 0, none⟩), .pointer (some ⟨Wg, 0, none⟩), x5, .pointer (some ⟨onb, 0, none⟩), x7, x8, x9, x10, .slice (some ⟨lb, 0, none⟩) 2 2, .int .i64 2, .int .i64 1, .bool true, .pointer (some ⟨lb, 2, none⟩), .agg #[.pointer (some ⟨wb, 0, none⟩), .func (.func 45) #[] #[.pointer (some ⟨yb, 0, none⟩)]], x17, x18, x19, x20, x21, x22], []⟩ : Act).eval o).run Try.prog w = .ok (.value (.func (.func 47) #[] #[.pointer (some ⟨Wg, 0, none⟩), .pointer (some ⟨yb, 0, none⟩), .pointer (some ⟨onb, 0, none⟩)])) w ∧
    (execOp (⟨#[x0, .pointer (some ⟨yb, 0, none⟩), .pointer (some ⟨db, 0, none⟩), .pointer (some ⟨wb, 0, none⟩), .pointer (some ⟨Wg, 0, none⟩), x5, .pointer (some ⟨onb, 0, none⟩), x7, x8, x9, x10, .slice (some ⟨lb, 0, none⟩) 2 2, .int .i64 2, .int .i64 1, .bool true, .pointer (some ⟨lb, 2, none⟩), .agg #[.pointer (some ⟨wb, 0, none⟩), .func (.func 45) #[] #[.pointer (some ⟨yb, 0, none⟩)]], x17, x18, x19, x20, x21, x22], []⟩ : Act).eval o).events Try.prog w #[] = #[] := by
  obtain ⟨o, h1, h2, h3, h4⟩ : ∃ o : Oper, (opsO (r28 Try.f28 6))[0]? = some o ∧ o.op = .makeFunc (.func 47) #[] #[.tmp 4, .tmp 1, .tmp 6] ∧ o.guard = none ∧ o.dst = some 18 := ⟨_, rfl, rfl, rfl, rfl⟩
  refine ⟨o, h1, by simp [Region.wanted, h3], h4, ?_, ?_⟩
  · unfold execOp
    simp [h2, go_sem, Act.eval, Instr.makeFunc]
  · unfold execOp
    simp [h2, go_sem, Act.eval, Instr.makeFunc]
end Go.Proofs.Ytpolipcicfjkiaa.Cy
/- lasts. Conditions: none. -/
namespace Go.Proofs.Ytpolipcicfjkiaa.Cy
open Go Go.Conc Go.RowKit Go.Proofs

section
variable {P : Program} {main : Bool} {R : World → World → Prop} {D : World → World → Array Event → Prop} {Stop : Goroutine → World → Prop} {b : Frame} {a : Act} {k : List Item} {cs : List Frame} {w : World} {n : Nat}
theorem gl_seq (T : Terms R D) {x y : Code} (h : Goes P main R D Stop n (G (b.at a (.code x :: .code y :: k)) cs) w) : Goes P main R D Stop (n + 1) (G (b.at a (.code (.seq x y) :: k)) cs) w :=
  Goes.step rfl fun w₁ h₁ => by rw [stepG_seq]; exact ⟨T.idle _, h.rely T.trans h₁⟩
theorem gl_block (T : Terms R D) {id : Nat} {c : Code} (h : Goes P main R D Stop n (G (b.at a (.code c :: .inBlock id :: k)) cs) w) : Goes P main R D Stop (n + 1) (G (b.at a (.code (.block id c) :: k)) cs) w :=
  Goes.step rfl fun w₁ h₁ => by rw [stepG_block]; exact ⟨T.idle _, h.rely T.trans h₁⟩
theorem gl_inBlock (T : Terms R D) {id : Nat} (h : Goes P main R D Stop n (G (b.at a k) cs) w) : Goes P main R D Stop (n + 1) (G (b.at a (.inBlock id :: k)) cs) w :=
  Goes.step rfl fun w₁ h₁ => by rw [stepG_inBlock]; exact ⟨T.idle _, h.rely T.trans h₁⟩
theorem gl_ret (T : Terms R D) (h : ∀ todo, Goes P main R D Stop n (G { b.at a todo with mode := .returning } cs) w) : Goes P main R D Stop (n + 1) (G (b.at a (.code .ret :: k)) cs) w :=
  Goes.step rfl fun w₁ h₁ => by rw [stepG_ret']; exact ⟨T.idle _, (h _).rely T.trans h₁⟩
theorem gl_wp {fn : FuncId} {c : Code} {m : Nat} {Q : Exit → Act → World → Prop} (h : c.wpC P main R D fn m Q a w) (hb : b.fn = fn) (hk : b.kind ≠ .early) (hQ : ∀ e a' w', Q e a' w' → e = .normal ∧ Goes P main R D Stop n (G (b.at a' k) cs) w') : Goes P main R D Stop (n + m) (G (b.at a (.code c :: k)) cs) w :=
  h b k cs Stop n hb hk fun e a' w' q => by
    obtain ⟨rfl, h⟩ := hQ e a' w' q
    exact h

/-- A whole range over a function whose rounds may end it. -/
theorem goes_range2 (T : Terms R D) {m : Nat} {g : Operand} {ps : Array Tmp} {asg body : Code} {gf : Nat} {lb : Array Value}
    (hk : b.kind ≠ .early) (hg : a.eval g = .func (.func gf) #[] lb)
    (h : ∀ w₁, R w w₁ → D w₁ (W1 b a.tmps ps asg body w₁) #[] ∧ ∀ vs, (#[Value.func (.yield (w₁.heap.size + 1)) #[] #[]] : Array Value) ++ lb = vs → CallsC P main R D gf vs n (W1 b a.tmps ps asg body w₁) (fun _ w' => ∀ w₂, R w' w₂ →
      ∃ r, w₂.heap[w₁.heap.size + 1]? = some (.loop r) ∧ r.state ≠ .busy ∧ D w₂ (w₂.putObj (w₁.heap.size + 1) (.loop { r with state := .exhausted })) (seen P b.fn ((Instr.endLoop (w₁.heap.size + 1)).events P w₂ #[])) ∧
        ((r.pending = none ∧ Goes P main R D Stop m (G (b.at ⟨a.tmps, { target := .collected w₁.heap.size, args := #[] } :: a.defers⟩ k) cs) (w₂.putObj (w₁.heap.size + 1) (.loop { r with state := .exhausted }))) ∨
         (∃ j, r.pending = some j ∧ Goes P main R D Stop m (G (b.at ⟨a.tmps, { target := .collected w₁.heap.size, args := #[] } :: a.defers⟩ (.code j :: k)) cs) (w₂.putObj (w₁.heap.size + 1) (.loop { r with state := .exhausted })))))) :
    Goes P main R D Stop (m + n + 4) (G (b.at a (.code (.rangeFunc g ps asg body) :: k)) cs) w := by
  have hn : ∀ a' todo, b.at a' todo = ({ b with roundOf := none }).atR a' todo := fun _ _ => rfl
  have e : m + n + 4 = (m + 3 + n) + 1 := by omega
  rw [e]
  refine Goes.step rfl fun w₁ h₁ => ?_
  obtain ⟨hD, hcall⟩ := h w₁ h₁
  obtain ⟨fn, c, hf, hname, hbody, hwp⟩ := hcall _ rfl
  rw [hn, stepR_range (by rfl) (by exact hk) hg hf hname hbody]
  refine ⟨hD, ?_⟩
  have hleave : ∀ (a' : Act) (w' : World) (todo : List Item), (a'.defers = [] ∧ ∃ v, ResultsC P fn a'.tmps v ∧ ∀ w₂, R w' w₂ →
      ∃ r, w₂.heap[w₁.heap.size + 1]? = some (.loop r) ∧ r.state ≠ .busy ∧ D w₂ (w₂.putObj (w₁.heap.size + 1) (.loop { r with state := .exhausted })) (seen P b.fn ((Instr.endLoop (w₁.heap.size + 1)).events P w₂ #[])) ∧
        ((r.pending = none ∧ Goes P main R D Stop m (G (b.at ⟨a.tmps, { target := .collected w₁.heap.size, args := #[] } :: a.defers⟩ k) cs) (w₂.putObj (w₁.heap.size + 1) (.loop { r with state := .exhausted }))) ∨
         (∃ j, r.pending = some j ∧ Goes P main R D Stop m (G (b.at ⟨a.tmps, { target := .collected w₁.heap.size, args := #[] } :: a.defers⟩ (.code j :: k)) cs) (w₂.putObj (w₁.heap.size + 1) (.loop { r with state := .exhausted }))))) →
      Goes P main R D Stop (m + 1 + 1) (G { (Go.Conc.base gf).at a' todo with mode := .returning } (({ b with roundOf := none }).atR ⟨a.tmps, { target := .collected w₁.heap.size, args := #[] } :: a.defers⟩ (.inRangeFunc (w₁.heap.size + 1) :: k) :: cs)) w' := by
    rintro a' w' todo ⟨hd, v, hr, hp⟩
    refine Goes.step rfl fun w₃ h₃ => ?_
    rw [stepG_leave (b := Go.Conc.base gf) rfl hd hf (hr w₃).1 (hr w₃).2, finish_range]
    refine ⟨T.idle _, Goes.step rfl fun w₄ h₄ => ?_⟩
    obtain ⟨r, q1, q2, q4, q5⟩ := hp w₄ (T.trans _ _ _ h₃ h₄)
    rcases q5 with ⟨q3, q5⟩ | ⟨j, q3, q5⟩
    · rw [stepR_endRange (by exact hk) q1 q2 q3]
      exact ⟨q4, q5⟩
    · rw [stepR_endRange2 (by exact hk) q1 q2 q3]
      exact ⟨q4, q5⟩
  refine (hwp (Go.Conc.base gf) [] _ Stop (m + 3) rfl (by simp [Go.Conc.base]) fun e a' w' q => ?_)
  cases e with
  | normal => exact Goes.step rfl fun w₃ h₃ => by rw [stepG_end]; exact ⟨T.idle _, (hleave a' w' [] q).rely T.trans h₃⟩
  | ret => exact fun todo => (hleave a' w' todo q).more
  | exit id => exact q.elim
  | goto l => exact q.elim
  | panic ch => exact q.elim
  | outgrown => exact q.elim
end

/-- What lasts has made: the year's box, its result's. -/
structure H32 (B : Nat) (O : Nat → Option Obj) (yb rb : Nat) (yo : Obj) (w : World) : Prop where
  y : w.heap[yb]? = some yo
  r : w.heap[rb]? = some (.cells #[.bool false] 4)
  old : Olds B O w
  yB : B ≤ yb
  rB : B ≤ rb
theorem H32.rely {B : Nat} {O : Nat → Option Obj} {yb rb : Nat} {yo : Obj} (w w₁ : World) (h : H32 B O yb rb yo w) (e : Env w w₁) : H32 B O yb rb yo w₁ := ⟨env_at e h.y, env_at e h.r, h.old.rely e, h.yB, h.rB⟩
theorem H32.alloc {B : Nat} {O : Nat → Option Obj} {yb rb : Nat} {yo : Obj} (w : World) (c : Array Value) (e : TypeId) (h : H32 B O yb rb yo w) : H32 B O yb rb yo (w.alloc (Obj.cells c e)) := ⟨(hb_old ⟨h.y⟩ _).blk, (hb_old ⟨h.r⟩ _).blk, h.old.alloc _, h.yB, h.rB⟩

def c32 (f : Func) : Nat → Code
  | 0 => sqL (codeOf f)
  | 1 => sqL (sqL (sqR (codeOf f)))
  | _ => sqL (sqR (sqR (codeOf f)))
theorem c32_is : codeOf Try.f32 = .seq (c32 Try.f32 0) (.seq (.seq (c32 Try.f32 1) (.block 0 (.rangeFunc (.tmp 7) #[8, 9] (asgO Try.f32) (bodyO Try.f32)))) (.seq (c32 Try.f32 2) .ret)) := rfl

set_option maxRecDepth 100000 in
theorem r0_32 : ∃ k, ∀ (B : Nat) (O : Nat → Option Obj) (size start : Int) (sl : Option Addr) (n capc : Nat) (w : World), Olds B O w →
    (c32 Try.f32 0).wpC PA.prog true Env DN 32 k (fun e a' w' => e = .normal ∧ ∃ yb rb, a' = ⟨#[.agg #[.int .i64 size, .int .i64 start, .slice sl n capc], .pointer (some ⟨yb, 0, none⟩), .pointer (some ⟨rb, 0, none⟩), undef, undef, undef, undef, undef, undef, undef, undef, undef], []⟩ ∧ H32 B O yb rb (.cells #[.int .i64 size, .int .i64 start, .slice sl n capc] 24) w') ⟨#[.agg #[.int .i64 size, .int .i64 start, .slice sl n capc], undef, undef, undef, undef, undef, undef, undef, undef, undef, undef, undef], []⟩ w := by
  co_apply Exists.intro
  intro B O size start sl n capc w hF
  unfold c32
  simp only [codeOf, sqL, Try.f32]
  co_reg env_terms
  co_opw Olds.rely hF (skip) (refine dn_new ?_; co_evs (intro r; simp))
  rename_i W
  have hG : HB1 (Olds B O) W.heap.size (.cells #[.int .i64 size, .int .i64 start, .slice sl n capc] 24) (W.alloc (.cells #[.int .i64 size, .int .i64 start, .slice sl n capc] 24)) := ⟨hb_new W _, hF.alloc _⟩
  have hy := hF.le
  clear hF
  generalize W.heap.size = yb at hG hy ⊢
  generalize W.alloc (.cells #[.int .i64 size, .int .i64 start, .slice sl n capc] 24) = W' at hG ⊢
  co_opw (HB1.rely (fun _ _ h r => Olds.rely h r)) hG (skip) (refine dn_new ?_; co_evs (intro r; simp))
  rename_i W2
  have hH : H32 B O yb W2.heap.size (.cells #[.int .i64 size, .int .i64 start, .slice sl n capc] 24) (W2.alloc (.cells #[.bool false] 4)) := ⟨(hb_old hG.one _).blk, (hb_new W2 _).blk, hG.more.alloc _, hy, hG.more.le⟩
  co_apply opsC_nil env_terms
  exact ⟨rfl, yb, _, rfl, hH⟩

set_option maxRecDepth 100000 in
theorem r1_32 : ∃ k, ∀ (B : Nat) (O : Nat → Option Obj) (size start : Int) (sl : Option Addr) (n capc yb rb : Nat) (w : World), H32 B O yb rb (.cells #[.int .i64 size, .int .i64 start, .slice sl n capc] 24) w →
    (c32 Try.f32 1).wpC PA.prog true Env DN 32 k (fun e a' w' => e = .normal ∧ ∃ b1 b2, a' = ⟨#[.agg #[.int .i64 size, .int .i64 start, .slice sl n capc], .pointer (some ⟨yb, 0, none⟩), .pointer (some ⟨rb, 0, none⟩), undef, undef, .agg #[.int .i64 size, .int .i64 start, .slice sl n capc], .func (.func 52) #[] #[.pointer (some ⟨yb, 0, none⟩)], .func (.func 72) #[] #[.pointer (some ⟨b1, 0, none⟩), .pointer (some ⟨b2, 0, none⟩)], undef, undef, undef, undef], []⟩ ∧ HBF (H32 B O yb rb (.cells #[.int .i64 size, .int .i64 start, .slice sl n capc] 24)) b1 (.cells #[.int .i64 size, .int .i64 start, .slice sl n capc] 24) b2 (.cells #[.func (.func 52) #[] #[.pointer (some ⟨yb, 0, none⟩)]] 89) w') ⟨#[.agg #[.int .i64 size, .int .i64 start, .slice sl n capc], .pointer (some ⟨yb, 0, none⟩), .pointer (some ⟨rb, 0, none⟩), undef, undef, undef, undef, undef, undef, undef, undef, undef], []⟩ w := by
  obtain ⟨kn, hnew⟩ := f49_co true
  have hmk := fun (w : World) (es : Array Event) (a : Value) => show (Instr.makeFunc (Fn.func 52) #[] #[a]).events PA.prog w es = es from by simp [Instr.makeFunc]
  co_apply Exists.intro
  intro B O size start sl n capc yb rb w hF
  unfold c32
  simp only [codeOf, sqL, sqR, Try.f32]
  co_reg env_terms
  co_opw (H32.rely _ _) hF (have hc0 := cell_blk (i := 0) hF.y rfl; have hc1 := cell_blk (i := 1) hF.y rfl; have hc2 := cell_blk (i := 2) hF.y rfl) (refine dn_still ?_; intro e he; have hm := mem_listed he; simp [go_sem, *] at hm; rcases hm with rfl | rfl | rfl <;> (intro r; simp))
  clear hc0 hc1 hc2
  co_opw (H32.rely _ _) hF (skip) (rw [listed_nil (by simp [go_sem]; exact hmk _ _ _)]; exact Terms.idle env_terms _)
  co_apply opsC_call1 env_terms rfl (by rfl) rfl (hnew _ H32.rely H32.alloc (.int .i64 size) (.int .i64 start) (.slice sl n capc) 52 yb _ hF) (by simp [Act.eval])
  rintro _ w4 ⟨b1, b2, rfl, hF4⟩
  walk_nrm
  co_apply opsC_nil env_terms
  exact ⟨rfl, b1, b2, rfl, hF4⟩

set_option maxRecDepth 100000 in
theorem r5_32 : ∃ k, ∀ (B : Nat) (O : Nat → Option Obj) (rb : Nat) (x0 x1 x3 x4 x5 x6 x7 x8 x9 x10 x11 : Value) (df : List Deferred) (Dk : Nat) (w : World), (w.heap[rb]? = some (.cells #[.bool false] 4) ∧ w.heap[Dk]? = some (.deferred (some [])) ∧ Olds B O w ∧ B ≤ rb) →
    (c32 Try.f32 2).wpC PA.prog true Env DN 32 k (fun e a' w' => e = .normal ∧ a' = ⟨#[x0, x1, .pointer (some ⟨rb, 0, none⟩), x3, x4, x5, x6, x7, x8, x9, x10, x11], df⟩ ∧ w'.heap[rb]? = some (.cells #[.bool true] 4) ∧ w'.heap[Dk]? = some (.deferred (some [])) ∧ Olds B O w') ⟨#[x0, x1, .pointer (some ⟨rb, 0, none⟩), x3, x4, x5, x6, x7, x8, x9, x10, x11], df⟩ w := by
  co_apply Exists.intro
  intro B O rb x0 x1 x3 x4 x5 x6 x7 x8 x9 x10 x11 df Dk w hF
  have rl : ∀ {w w₁ : World}, (w.heap[rb]? = some (.cells #[.bool false] 4) ∧ w.heap[Dk]? = some (.deferred (some [])) ∧ Olds B O w ∧ B ≤ rb) → Env w w₁ → (w₁.heap[rb]? = some (.cells #[.bool false] 4) ∧ w₁.heap[Dk]? = some (.deferred (some [])) ∧ Olds B O w₁ ∧ B ≤ rb) := fun h e => ⟨env_at e h.1, env_at e h.2.1, h.2.2.1.rely e, h.2.2.2⟩
  unfold c32
  simp only [codeOf, sqL, sqR, Try.f32]
  co_reg env_terms
  co_opw rl hF (have hc0 := cell_blk (i := 0) hF.1 rfl; have hz0 := thaw_blk (i := 0) hF.1) (refine dn_cells (own_setCell hF.1) ?_; intro e he; have hm := mem_listed he; simp [go_sem] at hm; rw [events_store _ _ _ _ _ _ rfl] at hm; simp [hc0, hz0] at hm; subst hm; (intro r; simp))
  co_apply opsC_nil env_terms
  exact ⟨rfl, rfl, set_blk hF.1, heap_set_ne hF.2.1 (fun e => by have := hF.2.1; rw [e, hF.1] at this; cases this), hF.2.2.1.set hF.2.2.2⟩
end Go.Proofs.Ytpolipcicfjkiaa.Cy
