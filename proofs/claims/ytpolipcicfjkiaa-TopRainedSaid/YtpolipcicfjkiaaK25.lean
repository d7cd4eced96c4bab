/- Into both, up to the group's allocation, beside leavers. Conditions: none. -/
import Derived.Test.YtpolipcicfjkiaaK24
namespace Go.Proofs.Ytpolipcicfjkiaa.Cy
open Go Go.Conc Go.RowKit Go.Proofs
open Go.ConcN (sumTo)
open Go.ConcR (wgBlock)

def D0 (_ _ : World) (es : Array Event) : Prop := es = #[]
theorem terms0 : Terms AtRel D0 := ⟨atRel_trans, fun _ => rfl⟩

theorem run_box (a : Act) (o : Oper) (c s sv : Value) (hop : o.op = .box 24 (.tmp 0)) (hx : a.tmps[0]? = some (.agg #[c, s, sv])) (w : World) : (execOp a.eval o).run Try.prog w = .ok (.value (.pointer (some ⟨w.heap.size, 0, none⟩))) (w.alloc (.cells #[c, s, sv] 24)) ∧ (execOp a.eval o).events Try.prog w #[] = #[] := by
  constructor
  · unfold execOp
    simp [hop, go_sem, hx, Act.eval]
  · unfold execOp
    simp [hop, go_sem, hx, Act.eval]
theorem run_all (a : Act) (o : Oper) (hop : o.op = .alloc 60) (w : World) : (execOp a.eval o).run Try.prog w = .ok (.value (.pointer (some ⟨w.heap.size, 0, none⟩))) (w.alloc nil60) ∧ (execOp a.eval o).events Try.prog w #[] = #[] := by
  constructor
  · unfold execOp
    simp [hop, go_sem, nil60]
  · unfold execOp
    simp [hop, go_sem]
theorem run_alw (a : Act) (o : Oper) (hop : o.op = .alloc 87) (w : World) : (execOp a.eval o).run Try.prog w = .ok (.value (.pointer (some ⟨w.heap.size, 0, none⟩))) (w.alloc (wgBlock 87 0 0)) ∧ (execOp a.eval o).events Try.prog w #[] = #[] := by
  constructor
  · unfold execOp
    simp [hop, go_sem, wgBlock]
  · unfold execOp
    simp [hop, go_sem]
theorem go_val {S : Goroutine → World → Prop} {n : Nat} {b : Frame} {a : Act} {k : List Item} {cs : List Frame} {ops : Array Oper} {i : Nat} {rest : List Nat} {o : Oper} {v : Value} {w w' : World} (ho : ops[i]? = some o) (hw : o.guard = none) (hk : b.kind ≠ .early)
    (hr : ∀ d, (execOp a.eval o).run Try.prog (w.at d) = .ok (.value v) (w'.at d) ∧ (execOp a.eval o).events Try.prog (w.at d) #[] = #[]) (h : Goes Try.prog true AtRel D0 S n (G (b.at (a.put o.dst v) (.inRegion ops rest :: k)) cs) w') :
    Goes Try.prog true AtRel D0 S (n + 1) (G (b.at a (.inRegion ops (i :: rest) :: k)) cs) w :=
  Goes.step rfl fun w₁ h₁ => by
    obtain ⟨d, rfl⟩ := h₁
    rw [stepG_value ho (by simp [Region.wanted, hw]) hk (hr d).1, listed_nil (hr d).2]
    exact ⟨rfl, h.rely atRel_trans ⟨d, rfl⟩⟩
theorem go_ctl {S : Goroutine → World → Prop} {n : Nat} {g g' : Goroutine} {w : World} (hs : g.status = .running) (hst : ∀ w, stepG Try.prog true g w = .go g' w #[]) (h : Goes Try.prog true AtRel D0 S n g' w) : Goes Try.prog true AtRel D0 S (n + 1) g w :=
  Goes.step hs fun w₁ h₁ => by rw [hst w₁]; exact ⟨rfl, h.rely atRel_trans h₁⟩

/-- The world behind both's four allocations. -/
def W4 (c s sv : Value) (w : World) : World := (((w.alloc (.cells #[c, s, sv] 24)).alloc nil60).alloc nil60).alloc (wgBlock 87 0 0)
/-- both's own frame there. -/
def f28At (f : Func) (town : Value) (B : Nat) : Frame := b28f.at ⟨#[town, .pointer (some ⟨B, 0, none⟩), .pointer (some ⟨B + 1, 0, none⟩), .pointer (some ⟨B + 2, 0, none⟩), .pointer (some ⟨B + 3, 0, none⟩), undef, undef, undef, undef, undef, undef, undef, undef, undef, undef, undef, undef, undef, undef, undef, undef, undef, undef], []⟩ [.inRegion (opsO (r28 f 1)) [], .code (.seq (m28 f) (e28 f))]

theorem st_b28 {P : Program} {main : Bool} {b : Frame} {a : Act} {k : List Item} {cs : List Frame} {w : World} : stepG P main (G (b.at a (.code (b28 Try.f28) :: k)) cs) w = .go (G (b.at a (.code (r28 Try.f28 0) :: .code (.seq (r28 Try.f28 1) (.seq (m28 Try.f28) (e28 Try.f28))) :: k)) cs) w #[] := stepG_seq (x := r28 Try.f28 0) (y := .seq (r28 Try.f28 1) (.seq (m28 Try.f28) (e28 Try.f28)))
theorem st_r0 {P : Program} {main : Bool} {b : Frame} {a : Act} {k : List Item} {cs : List Frame} {w : World} : stepG P main (G (b.at a (.code (r28 Try.f28 0) :: k)) cs) w = .go (G (b.at a (.inRegion (opsO (r28 Try.f28 0)) [0, 1, 2] :: k)) cs) w #[] := stepG_region (id := 0) (ops := opsO (r28 Try.f28 0))
theorem st_r1 {P : Program} {main : Bool} {b : Frame} {a : Act} {k : List Item} {cs : List Frame} {w : World} : stepG P main (G (b.at a (.code (r28 Try.f28 1) :: k)) cs) w = .go (G (b.at a (.inRegion (opsO (r28 Try.f28 1)) [0] :: k)) cs) w #[] := stepG_region (id := 1) (ops := opsO (r28 Try.f28 1))

set_option maxRecDepth 100000 in
theorem goes28 {b0 : Frame} {a0 : Act} {ops0 : Array Oper} {i0 : Nat} {rest0 : List Nat} {k0 : List Item} {fs : List Frame} {o0 : Oper} {x : Operand} {c s sv : Value} {w : World} (ho : ops0[i0]? = some o0) (hw : Region.wanted o0 (yielded ops0 a0.tmps) = true) (hk : b0.kind ≠ .early)
    (hop : o0.op = .call { callee := .value (.func 28), args := #[x], argTypes := #[24] }) (hx : a0.eval x = .agg #[c, s, sv]) :
    Goes Try.prog true AtRel D0 (fun g w' => g = G (f28At Try.f28 (.agg #[c, s, sv]) w.heap.size) (b0.at a0 (.inRegion ops0 (i0 :: rest0) :: k0) :: fs) ∧ ∃ d, w' = (W4 c s sv w).at d) 10 (G (b0.at a0 (.inRegion ops0 (i0 :: rest0) :: k0)) fs) w := by
  have h28 : Try.f28.body = some (b28 Try.f28) := rfl
  obtain ⟨o1, o2, o3, p1, p2, p3, q1, q2, q3, r1, r2, r3, s1, s2, s3⟩ : ∃ o1 o2 o3 : Oper, (opsO (r28 Try.f28 0))[0]? = some o1 ∧ (opsO (r28 Try.f28 0))[1]? = some o2 ∧ (opsO (r28 Try.f28 0))[2]? = some o3 ∧ o1.op = .box 24 (.tmp 0) ∧ o2.op = .alloc 60 ∧ o3.op = .alloc 60 ∧
    o1.guard = none ∧ o2.guard = none ∧ o3.guard = none ∧ o1.dst = some 1 ∧ o2.dst = some 2 ∧ o3.dst = some 3 := ⟨_, _, _, rfl, rfl, rfl, rfl, rfl, rfl, rfl, rfl, rfl, rfl, rfl, rfl⟩
  obtain ⟨o4, p4, q4, r4, s4⟩ : ∃ o4 : Oper, (opsO (r28 Try.f28 1))[0]? = some o4 ∧ o4.op = .alloc 87 ∧ o4.guard = none ∧ o4.dst = some 4 := ⟨_, rfl, rfl, rfl, rfl⟩
  refine go_ctl rfl (fun w => stepG_callf (tm := #[.agg #[c, s, sv], undef, undef, undef, undef, undef, undef, undef, undef, undef, undef, undef, undef, undef, undef, undef, undef, undef, undef, undef, undef, undef, undef]) ho hw hk hop Try.func28 (by rfl) h28 (by
    have : Try.f28.ntmps = 23 := rfl
    simp [hx])) ?_
  refine go_ctl rfl (fun w => st_b28) (go_ctl rfl (fun w => st_r0) ?_)
  refine go_val (v := .pointer (some ⟨w.heap.size, 0, none⟩)) (w' := w.alloc (.cells #[c, s, sv] 24)) p1 r1 (by decide) (fun d => run_box _ o1 c s sv q1 rfl (w.at d)) ?_
  rw [s1]
  walk_nrm
  refine go_val (v := .pointer (some ⟨(w.alloc (.cells #[c, s, sv] 24)).heap.size, 0, none⟩)) (w' := (w.alloc (.cells #[c, s, sv] 24)).alloc nil60) p2 r2 (by decide) (fun d => run_all _ o2 q2 ((w.alloc (.cells #[c, s, sv] 24)).at d)) ?_
  rw [s2]
  walk_nrm
  refine go_val (v := .pointer (some ⟨((w.alloc (.cells #[c, s, sv] 24)).alloc nil60).heap.size, 0, none⟩)) (w' := ((w.alloc (.cells #[c, s, sv] 24)).alloc nil60).alloc nil60) p3 r3 (by decide) (fun d => run_all _ o3 q3 (((w.alloc (.cells #[c, s, sv] 24)).alloc nil60).at d)) ?_
  rw [s3]
  walk_nrm
  refine go_ctl rfl (fun w => stepG_region_end) (go_ctl rfl (fun w => stepG_seq) (go_ctl rfl (fun w => st_r1) ?_))
  refine go_val (v := .pointer (some ⟨(((w.alloc (.cells #[c, s, sv] 24)).alloc nil60).alloc nil60).heap.size, 0, none⟩)) (w' := W4 c s sv w) p4 r4 (by decide) (fun d => run_alw _ o4 q4 ((((w.alloc (.cells #[c, s, sv] 24)).alloc nil60).alloc nil60).at d)) ?_
  rw [s4]
  walk_nrm
  intro w₁ h₁
  obtain ⟨d, rfl⟩ := h₁
  refine ⟨?_, d, rfl⟩
  simp [f28At]
end Go.Proofs.Ytpolipcicfjkiaa.Cy
/- ████ both, called by the caller, beside leavers: from the call to behind the join. ████ Conditions: none. -/
namespace Go.Proofs.Ytpolipcicfjkiaa.Cy
open Go Go.Conc Go.RowKit Go.Proofs
open Go.ConcN (WgLive sumTo)
open Go.ConcR (wgBlock WgAt)

theorem at_old {w : World} {o : Obj} {b : Nat} (hb : b < w.heap.size) : (w.alloc o).heap[b]? = w.heap[b]? := by
  rw [Array.getElem?_eq_getElem hb]
  exact (hb_old ⟨Array.getElem?_eq_getElem hb⟩ o).blk
theorem w4_size (c s sv : Value) (w : World) : (W4 c s sv w).heap.size = w.heap.size + 4 := by simp [W4]
theorem w4_old (c s sv : Value) (w : World) {b : Nat} (hb : b < w.heap.size) : (W4 c s sv w).heap[b]? = w.heap[b]? := by
  unfold W4
  rw [at_old (by first | (simp; done) | (simp; omega)), at_old (by first | (simp; done) | (simp; omega)), at_old (by first | (simp; done) | (simp; omega)), at_old hb]
theorem w4_y (c s sv : Value) (w : World) : (W4 c s sv w).heap[w.heap.size]? = some (.cells #[c, s, sv] 24) := by
  unfold W4
  rw [at_old (by first | (simp; done) | (simp; omega)), at_old (by first | (simp; done) | (simp; omega)), at_old (by first | (simp; done) | (simp; omega))]
  exact (hb_new w _).blk
theorem w4_d (c s sv : Value) (w : World) : (W4 c s sv w).heap[w.heap.size + 1]? = some nil60 := by
  unfold W4
  rw [at_old (by first | (simp; done) | (simp; omega)), at_old (by first | (simp; done) | (simp; omega))]
  have := (hb_new (w.alloc (.cells #[c, s, sv] 24)) nil60).blk
  simpa using this
theorem w4_w (c s sv : Value) (w : World) : (W4 c s sv w).heap[w.heap.size + 2]? = some nil60 := by
  unfold W4
  rw [at_old (by first | (simp; done) | (simp; omega))]
  have := (hb_new ((w.alloc (.cells #[c, s, sv] 24)).alloc nil60) nil60).blk
  simpa using this
theorem w4_g (c s sv : Value) (w : World) : (W4 c s sv w).heap[w.heap.size + 3]? = some (wgBlock 87 0 0) := by
  have := (hb_new (((w.alloc (.cells #[c, s, sv] 24)).alloc nil60).alloc nil60) (wgBlock 87 0 0)).blk
  simpa [W4] using this

theorem left_end {cls : Nat → Cls} {g ob n : Nat} {xs : List Value} {w : World} (h : Left ob n xs (view cls g w)) : Left ob n xs (view (clsE cls) 0 w) := by
  have key : ∀ {b : Nat} {c : Array Value} {e : TypeId}, (view cls g w).heap[b]? = some (.cells c e) → c ≠ #[] → (view (clsE cls) 0 w).heap[b]? = some (.cells c e) := fun {b c e} hb hc => by
    have hm := open_mine hb hc
    exact seen_end (seen_mine hb hm) (by rw [hm]; exact fun e => by cases e)
  obtain ⟨v, h1, h2, h3⟩ := h
  refine ⟨v, key h1 (by simp), ?_, h3⟩
  refine ⟨h2.1, ?_⟩
  rcases h2.2 with h4 | ⟨g', cap, cur, rfl, h5, h6, h7, h8, h9, h10⟩
  · exact .inl h4
  · refine .inr ⟨g', cap, cur, rfl, h5, key h6 ?_, h7, h8, h9, h10⟩
    rintro rfl
    by_cases h0 : n = 0
    · have := h3 h0; cases this
    · simp at h9; omega

/-- The classes as the phase begins. -/
def cls3 (cls : Nat → Cls) (B b : Nat) : Cls := if b = B + 3 then .none else clsN cls B b
theorem cls3_old {cls : Nat → Cls} {B b : Nat} (h : b < B) : cls3 cls B b = cls b := by
  unfold cls3 clsN
  rw [if_neg (by omega), if_pos h]
theorem cls3_new {cls : Nat → Cls} {B b : Nat} (h : B ≤ b) (h3 : b ≠ B + 3) : cls3 cls B b = .mine 0 := by
  unfold cls3 clsN
  rw [if_neg h3, if_neg (by omega)]

set_option maxHeartbeats 4000000 in
theorem both_phase {Shun : Loc → Prop} {gs : Array Goroutine} {w : World} {sl : Option (Nat × Nat)} {t : Trace} {cls : Nat → Cls} {b0 : Frame} {a0 : Act} {ops0 : Array Oper} {i0 : Nat} {rest0 : List Nat} {k0 : List Item} {fs : List Frame} {o0 : Oper} {x : Operand}
    (h : MS Shun gs w t cls (b0.at a0 (.inRegion ops0 (i0 :: rest0) :: k0)) fs) (ho : ops0[i0]? = some o0) (hw : Region.wanted o0 (yielded ops0 a0.tmps) = true) (hk : b0.kind ≠ .early)
    (hop : o0.op = .call { callee := .value (.func 28), args := #[x], argTypes := #[24] }) {size start : Int} {sy : Option Addr} {o n capc fb : Nat} {dc : Array Value} {dsL dsH : List (Int × Int)} {SX : List (Nat × Array Value × TypeId)} (hx : a0.eval x = .agg #[.int .i64 size, .int .i64 start, .slice sy n capc])
    (hL : YearOK fb sy o n dc 0 dsL) (hH : YearOK fb sy o n dc 1 dsH) (hX : Rows59 SX) (hfb : 0 < n → (fb, dc, 59) ∈ SX) (hn0 : n = 0 → ∀ p ∈ SX, p.1 ≠ fb) (hS : ∀ p ∈ SX, (view cls 0 w).heap[p.1]? = some (.cells p.2.1 p.2.2)) :
    ∃ (N : Nat) (gs' : Array Goroutine) (w' : World) (sl' : Option (Nat × Nat)) (t' : Trace) (cls' : Nat → Cls) (Shun' : Loc → Prop) (a8 : Act) (yb db wb Wg : Nat),
      runNT Try.prog N (crowd gs w sl) t = (.next (crowd gs' w' sl'), t') ∧ MS Shun' gs' w' t' cls' (b28f.at a8 (.inRegion (opsO (r28 Try.f28 8)) [] :: k8 Try.f28)) (b0.at a0 (.inRegion ops0 (i0 :: rest0) :: k0) :: fs) ∧ At28 yb db wb Wg a8 ∧ w.heap.size ≤ w'.heap.size ∧
      (∀ p ∈ SX, (view cls' 0 w').heap[p.1]? = some (.cells p.2.1 p.2.2)) ∧ Left db n (accD 0 (runD size (if size < start then size else start) dsL)) (view cls' 0 w') ∧ Left wb n (accD 0 (runD size (if size < start then size else start) dsH)) (view cls' 0 w') ∧
      w'.output = w.output ∧ w'.os = w.os ∧ w'.tape = w.tape ∧ ∀ b, b < w.heap.size → cls b = .none → cls' b = .none ∧ w'.heap[b]? = w.heap[b]? := by
  obtain ⟨q, hq⟩ := h.leav
  obtain ⟨N1, gs1, a1, w1, sl1, t1, q1, run1, hsz1, h01, ⟨rfl, d, rfl⟩, L1, P1⟩ := walk_beside (P := Try.prog) (Shun := Shun) (B := w.heap.size) (D := D0) (fun w w' es hd e he => by rw [show es = #[] from hd] at he; simp at he) _ 10 gs _ w sl t q (Nat.le_refl _) h.h0 hq h.past (goes28 (sv := .slice sy n capc) ho hw hk hop hx)
  generalize hB : w.heap.size = B at *
  have hold : ∀ b, b < B → ((W4 (.int .i64 size) (.int .i64 start) (.slice sy n capc) w).at d).heap[b]? = w.heap[b]? := fun b hb => w4_old _ _ _ w (by omega)
  have hy4 : ((W4 (.int .i64 size) (.int .i64 start) (.slice sy n capc) w).at d).heap[B]? = some (yObj size start sy n capc) := by rw [← hB]; exact w4_y _ _ _ w
  have hd4 : ((W4 (.int .i64 size) (.int .i64 start) (.slice sy n capc) w).at d).heap[B + 1]? = some nil60 := by rw [← hB]; exact w4_d _ _ _ w
  have hw4 : ((W4 (.int .i64 size) (.int .i64 start) (.slice sy n capc) w).at d).heap[B + 2]? = some nil60 := by rw [← hB]; exact w4_w _ _ _ w
  have hg4 : ((W4 (.int .i64 size) (.int .i64 start) (.slice sy n capc) w).at d).heap[B + 3]? = some (wgBlock 87 0 0) := by rw [← hB]; exact w4_g _ _ _ w
  have hs4 : ((W4 (.int .i64 size) (.int .i64 start) (.slice sy n capc) w).at d).heap.size = B + 4 := by rw [← hB]; exact w4_size _ _ _ w
  have hout : ((W4 (.int .i64 size) (.int .i64 start) (.slice sy n capc) w).at d).output = w.output ∧ ((W4 (.int .i64 size) (.int .i64 start) (.slice sy n capc) w).at d).os = w.os ∧ ((W4 (.int .i64 size) (.int .i64 start) (.slice sy n capc) w).at d).tape = w.tape := ⟨rfl, rfl, rfl⟩
  generalize hW : (W4 (.int .i64 size) (.int .i64 start) (.slice sy n capc) w).at d = W at *
  have hlt : ∀ p ∈ SX, p.1 < B := fun p hp => by
    have := (Array.getElem?_eq_some_iff.1 (hS p hp)).1
    rw [view_size, hB] at this
    exact this
  have hvold : ∀ b, b < B → (view (cls3 cls B) 0 W).heap[b]? = (view cls 0 w).heap[b]? := fun b hb => by
    rw [view_get, view_get, hold b hb]
    cases w.heap[b]? <;> simp [seenO, cls3_old hb]
  have hvnew : ∀ {b : Nat} {o : Obj}, B ≤ b → b ≠ B + 3 → W.heap[b]? = some o → (view (cls3 cls B) 0 W).heap[b]? = some o := fun h1 h2 h3 => seen_at h3 (cls3_new h1 h2)
  have htv : Tidy (view (cls3 cls B) 0 W) := tidy_view fun b o' hm ho' => by
    by_cases hb : b < B
    · refine h.tidy b o' ?_
      rw [cls3_old hb] at hm
      rw [hold b hb] at ho'
      exact seen_at ho' hm
    · have hlt := (Array.getElem?_eq_some_iff.1 ho').1
      rw [hs4] at hlt
      have h4 : b = B ∨ b = B + 1 ∨ b = B + 2 ∨ b = B + 3 := by omega
      rcases h4 with rfl | rfl | rfl | rfl
      · rw [hy4] at ho'; cases ho'; trivial
      · rw [hd4] at ho'; cases ho'; trivial
      · rw [hw4] at ho'; cases ho'; trivial
      · rw [hg4] at ho'; cases ho'; trivial
  have hstand : Stand' ((B, yObj size start sy n capc) :: (B + 1, nil60) :: (B + 2, nil60) :: SX.map row59) (view (cls3 cls B) 0 W) := by
    intro p hp
    simp only [List.mem_cons, List.mem_map] at hp
    rcases hp with rfl | rfl | rfl | ⟨r, hr, rfl⟩
    · exact hvnew (Nat.le_refl _) (by omega) hy4
    · exact hvnew (by omega) (by omega) hd4
    · exact hvnew (by omega) (by omega) hw4
    · rw [show (row59 r).1 = r.1 from rfl, hvold _ (hlt r hr)]
      exact hS r hr
  obtain ⟨Ng, hG⟩ := gv_both (Away := fun x b => match x with | false => ∃ l, Shun l ∧ ∃ a : Addr, l = .cell a ∧ a.block = b | true => b < B ∧ cls b = .none) (Wg := B + 3) (yb := B) (db := B + 1) (wb := B + 2) (cs := b0.at a0 (.inRegion ops0 (i0 :: rest0) :: k0) :: fs) (ops1 := opsO (r28 Try.f28 1)) hL hH hX hfb (fun p hp => by have := hlt _ hp; omega) (by omega)
    (.agg #[.int .i64 size, .int .i64 start, .slice sy n capc]) undef undef undef undef undef undef undef undef undef undef undef undef undef undef undef undef undef undef (Kf (cls3 cls B) 0 W) _ htv hstand
  obtain ⟨N2, m2, t2, run2, hE⟩ := phase (P := Try.prog) (ty := link.tWg) (Wg := B + 3) (FinM := finP B (B + 1) (B + 2) (B + 3) fb SX (b0.at a0 (.inRegion ops0 (i0 :: rest0) :: k0) :: fs)) (cls := cls3 cls B) (B := B)
    (fun j K V K₁ V₁ hj e => by cases j <;> exact Left.ext hj e) (fun a K V ha ht => anch_both a K V ha ht)
    (fun b => by
      by_cases hb3 : b = B + 3
      · exact .inl (by unfold cls3; rw [if_pos hb3])
      · by_cases hb : b < B
        · rw [cls3_old hb]; exact h.two b
        · exact .inr (cls3_new (by omega) hb3)) (by unfold cls3; rw [if_pos rfl]) P1 (by omega) (by rw [hs4]; omega) L1 h01 rfl hg4
    (fun l hl => by
      obtain ⟨a, rfl, hc, c, e, frz, hb⟩ := h.shun l hl
      have := (Array.getElem?_eq_some_iff.1 hb).1
      exact ⟨a, rfl, by rw [cls3_old (by omega)]; exact hc⟩) htv (fun b hb => hb)
    (fun b hb => by
      obtain ⟨l, hl, a, rfl, rfl⟩ := hb
      obtain ⟨a', e', hc, c, e, frz, hb⟩ := h.shun _ hl
      cases e'
      have := (Array.getElem?_eq_some_iff.1 hb).1
      exact ⟨by rw [cls3_old (by omega)]; exact hc, c, e, frz, by rw [hold _ (by omega)]; exact hb⟩)
    (fun b hb => by
      obtain ⟨hb, hc⟩ : b < B ∧ cls b = .none := hb
      exact ⟨by rw [cls3_old hb]; exact hc, by omega, by omega⟩) hG sl1
  obtain ⟨cls4, q4, gs4, a4, w4, sl4, rfl, g04, ⟨a8, h8, ⟨w0, l0, hgs⟩, hfv⟩, L4, P4, sz4, res4, sh4, wgc4, wgat4, tid4, os4, out4, tape4, kept4⟩ := hE
  have hl4 : WgLive link.tWg (B + 3) w4 := ⟨0, 0, wgat4⟩
  obtain ⟨N3, gs5, d5, sl5, t5, q5, run3, sz5, g05, L5, P5⟩ := wait_back (sl := sl4) hl4 g04 L4 P4 (gs_move l0 hl4 hgs)
  have hyb := sh4.all B (.inl rfl)
  have hend : ∀ b : Nat, (view (clsE cls4) 0 (w4.at d5)).heap[b]? = (view (clsE cls4) 0 w4).heap[b]? := fun b => rfl
  refine ⟨N1 + (N2 + N3), gs5, w4.at d5, sl5, t5, clsE cls4, _, a8, B, B + 1, B + 2, B + 3, ?_, ⟨g05, ⟨q5, L5⟩, P5, fun b => ?_, fun l hl => ?_, ?_⟩, h8, ?_, fun p hp => ?_, left_end (res4 0 (by decide)), left_end (res4 1 (by decide)), out4.trans hout.1, os4.trans hout.2.1, tape4.trans hout.2.2, fun b hb hc => ?_⟩
  · rw [runNT_add N1 _ _ _ _ _ run1, runNT_add N2 _ _ _ _ _ run2]
    exact run3
  · by_cases hc : cls4 b = .none
    · exact .inl (clsE_none hc)
    · exact .inr (clsE_some hc)
  · rcases hl with hl | ⟨a, rfl, ha⟩
    · obtain ⟨a, rfl, _⟩ := h.shun l hl
      obtain ⟨a1, a2⟩ := sh4.away a.block ⟨_, hl, a, rfl, rfl⟩
      exact ⟨a, rfl, clsE_none a1, a2⟩
    · refine ⟨a, rfl, by rw [ha]; exact clsE_none wgc4, #[.int .u64 0, .int .u32 0], 87, (0, 0), ?_⟩
      rw [ha]
      exact wgat4
  · exact tidy_end tid4 fun b o' hb ho => by
      obtain ⟨c, e, frz, hc⟩ := sh4.only b hb
      have ho : w4.heap[b]? = some o' := ho
      rw [hc] at ho
      cases ho
      trivial
  · show B ≤ w4.heap.size
    have := hyb.1
    omega
  · rw [hend]
    by_cases hpf : p.1 = fb
    · have h0 : 0 < n := by
        apply Classical.byContradiction
        intro h0
        exact hn0 (by omega) p hp hpf
      have e1 := hS p hp
      have e2 := hS _ (hfb h0)
      simp only at e2
      rw [hpf, e2] at e1
      obtain ⟨s1, s2, s3⟩ := sh4.all fb (.inr ⟨h0, rfl⟩)
      have hfB := hlt _ (hfb h0)
      simp only at hfB
      rw [hpf, ← e1]
      refine seen_end (o := .cells dc 59) ?_ (by rw [s2]; exact fun e => by cases e)
      rw [s3]
      unfold scP
      rw [if_neg (by omega), if_pos rfl]
    · have e1 := hfv (row59 p) (List.mem_map.2 ⟨p, List.mem_filter.2 ⟨hp, by simpa using hpf⟩, rfl⟩)
      have hm := open_mine e1 (hX p hp).1
      have hm' : cls4 p.1 = .mine 0 := hm
      exact seen_end (seen_mine e1 hm) (by show cls4 p.1 ≠ _; rw [hm']; exact fun e => by cases e)
  · obtain ⟨k1, k2⟩ := kept4 b ⟨hb, hc⟩
    exact ⟨clsE_none k1, k2.trans (hold b hb)⟩
end Go.Proofs.Ytpolipcicfjkiaa.Cy
/- The plain words of layer 6: lines, what is valid, the table of all stretches. No program here. -/
namespace Go.Proofs.Ytpolipcicfjkiaa
/-- A point of a line. -/
structure Pt where
  lo : Int
  hi : Int
  cost : Int
  deriving DecidableEq, Inhabited
/-- A line: its points and its odds. -/
structure DLine where
  pts : List Pt
  odds : List Int
  deriving DecidableEq, Inhabited
/-! The plain words of the program. -/
def sumI : List Int → Int
  | [] => 0
  | x :: l => x + sumI l
theorem sumI_snoc : ∀ (l : List Int) (x : Int), sumI (l ++ [x]) = sumI l + x
  | [], x => by simp [sumI]
  | y :: l, x => by simp [sumI, sumI_snoc l x]; omega
theorem sumI_bd : ∀ (l : List Int), (∀ x ∈ l, 0 ≤ x ∧ x ≤ 9) → 0 ≤ sumI l ∧ sumI l ≤ 9 * l.length
  | [], _ => by simp [sumI]
  | x :: l, h => by
    have h1 := sumI_bd l (fun y hy => h y (by simp [hy]))
    have h2 := h x (by simp)
    simp [sumI]
    omega
def inR (n lo hi : Int) : Bool := decide (lo ≤ n) && decide (n ≤ hi)
def badOdds (n : Int) : Bool := !inR n 1 9
def badPt (p : Pt) : Bool := !inR p.hi 0 99 || !inR p.lo 0 p.hi || !inR p.cost 0 20
def valid (d : DLine) : Bool := decide (d.odds.length ≤ 7) && !d.odds.any badOdds && decide (d.pts.length = d.odds.length + 1) && !d.pts.any badPt
def someOf (d : DLine) (f t : Int) : Bool := decide (0 ≤ f) && decide (f < t) && decide (t ≤ d.odds.length)
def isSt (d : DLine) (n : Int) : Bool := inR n 0 (d.odds.length - 1)
def isPt (d : DLine) (n : Int) : Bool := inR n 0 (d.pts.length - 1)
def chk (d : DLine) : Int := if valid d then 0 else 60
def askE (d : DLine) (is : Bool) : Int := if valid d then (if is then 0 else 1) else 60

/-! The table of all stretches. -/
/-- Over the points p = f+1 .. f+k: the least 'g p', and the first p where it is. -/
def argmin (g : Nat → Int) (f : Nat) : Nat → Int × Nat
  | 0 => (0, 0)
  | k + 1 => if (argmin g f k).2 = 0 ∨ g (f + k + 1) < (argmin g f k).1 then (g (f + k + 1), f + k + 1) else argmin g f k
theorem argmin_congr {g g' : Nat → Int} {f : Nat} : ∀ k, (∀ p, f < p → p ≤ f + k → g p = g' p) → argmin g f k = argmin g' f k
  | 0, _ => rfl
  | k + 1, h => by
    have ih := argmin_congr (g := g) (g' := g') (f := f) k (fun p h1 h2 => h p h1 (by omega))
    unfold argmin
    rw [ih, h (f + k + 1) (by omega) (by omega)]
theorem argmin_pt (g : Nat → Int) (f : Nat) : ∀ k, ((argmin g f k).2 = 0 ↔ k = 0) ∧ (0 < k → f < (argmin g f k).2 ∧ (argmin g f k).2 ≤ f + k ∧ (argmin g f k).1 = g (argmin g f k).2)
  | 0 => ⟨by simp [argmin], fun h => absurd h (by omega)⟩
  | k + 1 => by
    obtain ⟨h1, h2⟩ := argmin_pt g f k
    unfold argmin
    split
    · exact ⟨by simp, fun _ => ⟨by simp; omega, by simp; omega, rfl⟩⟩
    · rename_i h
      have hk : k ≠ 0 := fun e => h (.inl (h1.2 e))
      obtain ⟨a, b, c⟩ := h2 (by omega)
      exact ⟨⟨fun e => absurd (h1.1 e) hk, fun e => by omega⟩, fun _ => ⟨a, by omega, c⟩⟩
theorem argmin_le (g : Nat → Int) (f : Nat) : ∀ k p, f < p → p ≤ f + k → (argmin g f k).1 ≤ g p
  | 0, p, h1, h2 => by omega
  | k + 1, p, h1, h2 => by
    have ih := argmin_le g f k p h1
    unfold argmin
    by_cases hp : p = f + k + 1
    · subst hp
      split
      · exact Int.le_refl _
      · rename_i h; omega
    · have ih := ih (by omega)
      split
      · rename_i h
        rcases h with h | h
        · have := (argmin_pt g f k).1.1 h; omega
        · simp only; omega
      · exact ih
theorem argmin_first (g : Nat → Int) (f : Nat) : ∀ k p, f < p → p < (argmin g f k).2 → (argmin g f k).1 < g p
  | 0, p, h1, h2 => by simp [argmin] at h2
  | k + 1, p, h1, h2 => by
    have ih := argmin_first g f k p h1
    unfold argmin at h2 ⊢
    split
    · rename_i h
      rw [if_pos h] at h2
      simp only at h2 ⊢
      rcases h with h | h
      · have := (argmin_pt g f k).1.1 h; omega
      · have := argmin_le g f k p h1 (by omega); omega
    · rename_i h
      rw [if_neg h] at h2
      exact ih h2

abbrev Part := Nat → Nat → Nat → Int → Int → Int
/-- The table: what the 'm' stretches from 'f' on are worth, and the first point at which they are parted so. -/
def tabF (part : Part) : Nat → Nat → Nat → Int × Nat
  | 0, _, _ => (0, 0)
  | n + 1, m, f => argmin (fun p => part f p (f + m) (tabF part n (p - f) f).1 (tabF part n (f + m - p) p).1) f (m - 1)
theorem tabF_eq (part : Part) (m : Nat) : ∀ n n' f, m ≤ n → m ≤ n' → tabF part n m f = tabF part n' m f := by
  induction m using Nat.strongRecOn with
  | _ m ih =>
    intro n n' f h h'
    rcases Nat.eq_zero_or_pos m with h0 | h0
    · subst h0
      cases n <;> cases n' <;> simp [tabF, argmin]
    · obtain ⟨k, rfl⟩ : ∃ k, n = k + 1 := ⟨n - 1, by omega⟩
      obtain ⟨k', rfl⟩ : ∃ k, n' = k + 1 := ⟨n' - 1, by omega⟩
      unfold tabF
      apply argmin_congr
      intro p h1 h2
      rw [ih (p - f) (by omega) k k' f (by omega) (by omega), ih (f + m - p) (by omega) k k' p (by omega) (by omega)]
def tab (part : Part) (m f : Nat) : Int × Nat := tabF part m m f
/-- The worth of parting the m stretches from f on at p. -/
def tabG (part : Part) (m f p : Nat) : Int := part f p (f + m) (tab part (p - f) f).1 (tab part (f + m - p) p).1
theorem tab_eq (part : Part) (m f : Nat) : tab part m f = argmin (tabG part m f) f (m - 1) := by
  cases m with
  | zero => rfl
  | succ m =>
    show argmin _ f (m + 1 - 1) = _
    apply argmin_congr
    intro p h1 h2
    unfold tabG tab
    rw [tabF_eq part (p - f) m (p - f) f (by omega) (by omega), tabF_eq part (f + (m + 1) - p) m (f + (m + 1) - p) p (by omega) (by omega)]
theorem tab_one (part : Part) (f : Nat) : tab part 1 f = (0, 0) := rfl

/-- A measure whose worth stays small: K for each parting. -/
def Small (part : Part) (n : Nat) (K : Int) : Prop := 0 ≤ K ∧ ∀ f p t b a, f < p → p < t → t ≤ n → 0 ≤ b → 0 ≤ a → 0 ≤ part f p t b a ∧ part f p t b a ≤ K + b + a
theorem tab_small {part : Part} {n : Nat} {K : Int} (h : Small part n K) (m : Nat) : ∀ f, f + m ≤ n → 0 ≤ (tab part m f).1 ∧ (tab part m f).1 ≤ K * (m - 1 : Nat) := by
  obtain ⟨hK, h⟩ := h
  induction m using Nat.strongRecOn with
  | _ m ih =>
    intro f hf
    rw [tab_eq]
    rcases Nat.lt_or_ge m 2 with hm | hm
    · have : m - 1 = 0 := by omega
      rw [this]; simp [argmin]
    · obtain ⟨h1, h2, h3⟩ := (argmin_pt (tabG part m f) f (m - 1)).2 (by omega)
      rw [h3]
      generalize (argmin (tabG part m f) f (m - 1)).2 = p at h1 h2
      have a1 := ih (p - f) (by omega) f (by omega)
      have a2 := ih (f + m - p) (by omega) p (by omega)
      have := h f p (f + m) (tab part (p - f) f).1 (tab part (f + m - p) p).1 h1 (by omega) hf a1.1 a2.1
      unfold tabG
      refine ⟨this.1, Int.le_trans this.2 ?_⟩
      have e : K * ((m - 1 : Nat) : Int) = K + K * ((p - f - 1 : Nat) : Int) + K * ((f + m - p - 1 : Nat) : Int) := by
        have : ((m - 1 : Nat) : Int) = 1 + ((p - f - 1 : Nat) : Int) + ((f + m - p - 1 : Nat) : Int) := by omega
        rw [this, Int.mul_add, Int.mul_add, Int.mul_one]
      rw [e]
      omega
theorem tabG_small {part : Part} {n : Nat} {K : Int} (h : Small part n K) (m f p : Nat) (h1 : f < p) (h2 : p < f + m) (h3 : f + m ≤ n) : 0 ≤ tabG part m f p ∧ tabG part m f p ≤ K * (m - 1 : Nat) := by
  have a1 := tab_small h (p - f) f (by omega)
  have a2 := tab_small h (f + m - p) p (by omega)
  have := h.2 f p (f + m) _ _ h1 h2 h3 a1.1 a2.1
  unfold tabG
  refine ⟨this.1, Int.le_trans this.2 ?_⟩
  have hK := h.1
  have e : K * ((m - 1 : Nat) : Int) = K + K * ((p - f - 1 : Nat) : Int) + K * ((f + m - p - 1 : Nat) : Int) := by
    have : ((m - 1 : Nat) : Int) = 1 + ((p - f - 1 : Nat) : Int) + ((f + m - p - 1 : Nat) : Int) := by omega
    rw [this, Int.mul_add, Int.mul_add, Int.mul_one]
  rw [e]
  omega

/-- The cost of a point, and the odds of some stretches together. -/
def costAt (d : DLine) (p : Nat) : Int := (d.pts[p]?.map Pt.cost).getD 0
def oddsOf (d : DLine) (f t : Nat) : Int := sumI ((d.odds.drop f).take (t - f))
def worstP (d : DLine) : Part := fun _ p _ b a => costAt d p + max b a
def sumP (d : DLine) : Part := fun f p t b a => costAt d p * oddsOf d f t + b + a
def worstN (d : DLine) (f t : Nat) : Int := (tab (worstP d) (t - f) f).1
def nextN (d : DLine) (f t : Nat) : Nat := (tab (worstP d) (t - f) f).2
def avgN (d : DLine) (f t : Nat) : Int := (tab (sumP d) (t - f) f).1

theorem valid_spec {d : DLine} (h : valid d = true) : d.odds.length ≤ 7 ∧ d.pts.length = d.odds.length + 1 ∧ (∀ x ∈ d.pts, (0 ≤ x.hi ∧ x.hi ≤ 99) ∧ (0 ≤ x.lo ∧ x.lo ≤ x.hi) ∧ 0 ≤ x.cost ∧ x.cost ≤ 20) ∧ ∀ x ∈ d.odds, 1 ≤ x ∧ x ≤ 9 := by
  unfold valid at h
  simp only [Bool.and_eq_true, decide_eq_true_eq, Bool.not_eq_true', List.any_eq_false] at h
  obtain ⟨⟨⟨h1, h2⟩, h3⟩, h4⟩ := h
  refine ⟨h1, h3, fun x hx => ?_, fun x hx => ?_⟩
  · have := h4 x hx
    simp [badPt, inR] at this
    omega
  · have := h2 x hx
    simp [badOdds, inR] at this
    omega
theorem costAt_bd {d : DLine} (h : valid d = true) (p : Nat) : 0 ≤ costAt d p ∧ costAt d p ≤ 20 := by
  unfold costAt
  cases hp : d.pts[p]? with
  | none => simp
  | some x =>
    have := ((valid_spec h).2.2.1 x (List.mem_of_getElem? hp)).2.2
    simpa using this
theorem oddsOf_bd (d : DLine) (f t : Nat) (hx : ∀ x ∈ d.odds, 0 ≤ x ∧ x ≤ 9) : 0 ≤ oddsOf d f t ∧ oddsOf d f t ≤ 9 * d.odds.length := by
  obtain ⟨h1, h2⟩ := sumI_bd ((d.odds.drop f).take (t - f)) (fun x hm => hx x (List.mem_of_mem_drop (List.mem_of_mem_take hm)))
  refine ⟨h1, Int.le_trans h2 ?_⟩
  simp
  omega
theorem mul_bd {x y A B : Int} (h1 : 0 ≤ x) (h2 : x ≤ A) (h3 : 0 ≤ y) (h4 : y ≤ B) : 0 ≤ x * y ∧ x * y ≤ A * B :=
  ⟨Int.mul_nonneg h1 h3, Int.le_trans (Int.mul_le_mul_of_nonneg_right h2 h3) (Int.mul_le_mul_of_nonneg_left h4 (by omega))⟩
theorem worst_small {d : DLine} (h : valid d = true) : Small (worstP d) d.odds.length 20 := by
  refine ⟨by omega, fun f p t b a _ _ _ hb ha => ?_⟩
  have := costAt_bd h p
  unfold worstP
  omega
theorem sum_small {d : DLine} (h : valid d = true) : Small (sumP d) d.odds.length 1260 := by
  refine ⟨by omega, fun f p t b a _ _ _ hb ha => ?_⟩
  have h1 := costAt_bd h p
  have h2 := oddsOf_bd d f t (fun x hx => by have := (valid_spec h).2.2.2 x hx; omega)
  have h3 := (valid_spec h).1
  have h4 := mul_bd h1.1 h1.2 h2.1 (show oddsOf d f t ≤ 63 by omega)
  unfold sumP
  omega

/-- The points that are gauged, from some stretches on, if the thief taps the stretch s. -/
def pathL (d : DLine) (s : Int) : Nat → Nat → Nat → List Int
  | 0, _, _ => []
  | k + 1, f, t => if f + 1 < t then (nextN d f t : Int) :: (if s < nextN d f t then pathL d s k f (nextN d f t) else pathL d s k (nextN d f t) t) else []
end Go.Proofs.Ytpolipcicfjkiaa
/- More plain words of layer 6: the clash, the flows. No program here. -/
namespace Go.Proofs.Ytpolipcicfjkiaa
/-- The greatest point a below k past which less can flow than flows past b in any case. -/
def clA (ps : List Pt) (b : Nat) : Nat → Option Nat
  | 0 => none
  | k + 1 => if (ps.getD k default).hi < (ps.getD b default).lo then some k else clA ps b k
/-- The first pair that contradicts each other, from the m last points on. -/
def clB (ps : List Pt) : Nat → Option (Nat × Nat)
  | 0 => none
  | m + 1 => match clA ps (ps.length - (m + 1)) (ps.length - (m + 1)) with
    | some a => some (a, ps.length - (m + 1))
    | none => clB ps m
def clashO (d : DLine) : Option (Nat × Nat) := clB d.pts d.pts.length
/-- At most, and at least, so much flows past a point. -/
def hiPre (ps : List Pt) (k : Nat) : Int := (ps.take k).foldl (fun m p => min m p.hi) 99
def loSuf (ps : List Pt) (k : Nat) : Int := (ps.drop k).foldr (fun p m => max m p.lo) 0
theorem hiPre_succ (ps : List Pt) (k : Nat) (h : k < ps.length) : hiPre ps (k + 1) = min (hiPre ps k) ps[k].hi := by
  unfold hiPre; rw [List.take_succ_eq_append_getElem h, List.foldl_append]; rfl
theorem loSuf_succ (ps : List Pt) (k : Nat) (h : k < ps.length) : loSuf ps k = max (loSuf ps (k + 1)) ps[k].lo := by
  unfold loSuf; rw [List.drop_eq_getElem_cons h]; rfl
def flowAt (d : DLine) (i : Nat) : Int × Int := (loSuf d.pts i, hiPre d.pts (i + 1))
def flowsL (d : DLine) : List (Int × Int) := (List.range d.pts.length).map (flowAt d)
/-- The spans while the lower ends are filled in from the end on: those from j on are there. -/
def flowsTo (d : DLine) (j : Nat) : List (Int × Int) := (List.range d.pts.length).map fun i => (if j ≤ i then loSuf d.pts i else 0, hiPre d.pts (i + 1))
def spCells (l : List (Int × Int)) : List (Int × Int) := l
theorem hiPre_bd {d : DLine} (h : valid d = true) (k : Nat) : 0 ≤ hiPre d.pts k ∧ hiPre d.pts k ≤ 99 := by
  induction k with
  | zero => simp [hiPre]
  | succ k ih =>
    by_cases hk : k < d.pts.length
    · rw [hiPre_succ _ _ hk]
      have := (valid_spec h).2.2.1 _ (List.getElem_mem hk)
      omega
    · have : hiPre d.pts (k + 1) = hiPre d.pts k := by
        unfold hiPre; rw [List.take_of_length_le (by omega), List.take_of_length_le (by omega)]
      rw [this]; exact ih
theorem loSuf_bd {d : DLine} (h : valid d = true) : ∀ m k, k + m = d.pts.length → 0 ≤ loSuf d.pts k ∧ loSuf d.pts k ≤ 99
  | 0, k, e => by
    have : loSuf d.pts k = 0 := by unfold loSuf; rw [List.drop_eq_nil_of_le (by omega)]; rfl
    omega
  | m + 1, k, e => by
    have ih := loSuf_bd h m (k + 1) (by omega)
    rw [loSuf_succ _ _ (show k < d.pts.length by omega)]
    have := (valid_spec h).2.2.1 _ (List.getElem_mem (show k < d.pts.length by omega))
    omega
end Go.Proofs.Ytpolipcicfjkiaa
/- The least cost at the worst: plain laws. No program here. -/
namespace Go.Proofs.Ytpolipcicfjkiaa
def wF (c : Nat → Int) : Part := fun _ p _ b a => c p + max b a
def wt (c : Nat → Int) (m f : Nat) : Int := (tab (wF c) m f).1
theorem worst_wt (d : DLine) (f t : Nat) : worstN d f t = wt (costAt d) (t - f) f := rfl
theorem wt_small (c : Nat → Int) (m f : Nat) (h : m < 2) : wt c m f = 0 := by
  unfold wt
  rw [tab_eq]
  have : m - 1 = 0 := by omega
  rw [this]; rfl
theorem wt_le (c : Nat → Int) (m f q : Nat) (h1 : f < q) (h2 : q < f + m) : wt c m f ≤ c q + max (wt c (q - f) f) (wt c (f + m - q) q) := by
  unfold wt
  rw [tab_eq]
  exact argmin_le (tabG (wF c) m f) f (m - 1) q h1 (by omega)
theorem wt_at (c : Nat → Int) (m f : Nat) (h : 2 ≤ m) : ∃ q, f < q ∧ q < f + m ∧ wt c m f = c q + max (wt c (q - f) f) (wt c (f + m - q) q) := by
  obtain ⟨h1, h2, h3⟩ := (argmin_pt (tabG (wF c) m f) f (m - 1)).2 (by omega)
  refine ⟨_, h1, by omega, ?_⟩
  show (tab (wF c) m f).1 = _
  rw [tab_eq, h3]
  rfl
/-- Dearer points: it is not less. -/
theorem wt_mono {c c' : Nat → Int} (m : Nat) : ∀ f, (∀ q, f < q → q < f + m → c q ≤ c' q) → wt c m f ≤ wt c' m f := by
  induction m using Nat.strongRecOn with
  | _ m ih =>
    intro f h
    rcases Nat.lt_or_ge m 2 with hm | hm
    · rw [wt_small c m f hm, wt_small c' m f hm]; exact Int.le_refl _
    · obtain ⟨q, h1, h2, h3⟩ := wt_at c' m f hm
      have a1 := wt_le c m f q h1 h2
      have a2 := ih (q - f) (by omega) f (fun r hr hr' => h r hr (by omega))
      have a3 := ih (f + m - q) (by omega) q (fun r hr hr' => h r (by omega) (by omega))
      have a4 := h q h1 h2
      omega
theorem wt_congr {c c' : Nat → Int} (m f : Nat) (h : ∀ q, f < q → q < f + m → c q = c' q) : wt c m f = wt c' m f :=
  Int.le_antisymm (wt_mono m f fun q h1 h2 => Int.le_of_eq (h q h1 h2)) (wt_mono m f fun q h1 h2 => Int.le_of_eq (h q h1 h2).symm)
/-- One point dearer by k: at most k more. -/
theorem wt_point {c c' : Nat → Int} {p : Nat} {k : Int} (hk : 0 ≤ k) (hp : c p ≤ c' p + k) (ho : ∀ q, q ≠ p → c q = c' q) (m : Nat) : ∀ f, wt c m f ≤ wt c' m f + k := by
  induction m using Nat.strongRecOn with
  | _ m ih =>
    intro f
    rcases Nat.lt_or_ge m 2 with hm | hm
    · rw [wt_small c m f hm, wt_small c' m f hm]; omega
    · obtain ⟨q, h1, h2, h3⟩ := wt_at c' m f hm
      have a1 := wt_le c m f q h1 h2
      by_cases hq : q = p
      · subst hq
        have a2 := wt_congr (c := c) (c' := c') (q - f) f (fun r hr hr' => ho r (by omega))
        have a3 := wt_congr (c := c) (c' := c') (f + m - q) q (fun r hr hr' => ho r (by omega))
        rw [a2, a3] at a1
        omega
      · have a2 := ih (q - f) (by omega) f
        have a3 := ih (f + m - q) (by omega) q
        have a4 := ho q hq
        omega
end Go.Proofs.Ytpolipcicfjkiaa
