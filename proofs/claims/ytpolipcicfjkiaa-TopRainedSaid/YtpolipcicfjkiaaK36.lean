/- A lone run to a stop, within a region: value by value up to a call. Conditions: none. -/
import Derived.Test.YtpolipcicfjkiaaK35
import Derived.Test.YtpolipcicfjkiaaK24
import Derived.Test.YtpolipcicfjkiaaK25
import Derived.Test.YtpolipcicfjkiaaK34
namespace Go.Proofs.Ytpolipcicfjkiaa
open Go.RowKit

def GoL (P : Program) (S : Machine → Prop) (b : Frame) (k : List Item) (cs : List Frame) (ops : Array Oper) (l : List Nat) (a : Act) (w : World) : Prop := Stops P S (lone (b.at a (.inRegion ops l :: k)) cs w)
section
variable {P : Program} {S : Machine → Prop} {b : Frame} {k : List Item} {cs : List Frame} {a : Act} {w : World} {ops : Array Oper}
theorem goS_region {id : Nat} (h : GoL P S b k cs ops (List.range ops.size) a w) : GoS P S b k cs (.region id ops false) a w := Stops.of_steps (.one step_region) h
theorem goL_end (h : Stops P S (lone (b.at a k) cs w)) : GoL P S b k cs ops [] a w := Stops.of_steps (.one step_region_end) h
theorem goL_value {i : Nat} {rest : List Nat} {o : Oper} {v : Value} {w' : World} (ho : ops[i]? = some o) (hw : Region.wanted o (yielded ops a.tmps) = true) (hr : (execOp a.eval o).run P w = .ok (.value v) w') (h : GoL P S b k cs ops rest (a.put o.dst v) w') : GoL P S b k cs ops (i :: rest) a w := by
  have hfin : (b.at a (.inRegion ops (i :: rest) :: k)).finish v = b.at (a.put o.dst v) (.inRegion ops rest :: k) := by rw [Frame.finish_at, ho]; rfl
  refine Stops.of_steps (.one (step_lone_go ?_)) h
  rw [stepG_op ho hw, ← hfin]
  simp [stepG.apply, hr]
theorem goL_skip {i : Nat} {rest : List Nat} {w' : World} {o : Oper} (ho : ops[i]? = some o) (hw : Region.wanted o (yielded ops a.tmps) = true) (hr : (execOp a.eval o).run P w = .ok .skip w') (h : GoL P S b k cs ops rest (a.put o.dst undef) w') : GoL P S b k cs ops (i :: rest) a w := by
  have hfin : (b.at a (.inRegion ops (i :: rest) :: k)).finish undef = b.at (a.put o.dst undef) (.inRegion ops rest :: k) := by rw [Frame.finish_at, ho]; rfl
  refine Stops.of_steps (.one (step_lone_go ?_)) h
  rw [stepG_op ho hw, ← hfin]
  simp [stepG.apply, hr]
/-- The stop is at this machine. -/
theorem goL_here {l : List Nat} (h : S (lone (b.at a (.inRegion ops l :: k)) cs w)) : GoL P S b k cs ops l a w := ⟨_, Steps.refl _ _, h⟩
/-- A call: on into the function called. -/
theorem goL_call {i : Nat} {rest : List Nat} {o : Oper} {f : FuncId} {fn : Func} {c : Code} {args : Array Operand} {ats : Array TypeId} {tm : Array Value}
    (ho : ops[i]? = some o) (hw : Region.wanted o (yielded ops a.tmps) = true) (hk : b.kind ≠ .early) (hop : o.op = .call { callee := .value (.func f), args, argTypes := ats })
    (hf : P.funcs[f]? = some fn) (hname : (fn.name == "runtime.NumGoroutine") = false) (hb : fn.body = some c) (htm : args.map a.eval ++ Array.replicate (fn.ntmps - (args.map a.eval).size) undef = tm)
    (h : GoS P S (Go.Conc.base f) [] (b.at a (.inRegion ops (i :: rest) :: k) :: cs) c { tmps := tm, defers := [] } w) : GoL P S b k cs ops (i :: rest) a w :=
  Stops.of_steps (.one (step_lone_go ((congrArg GStep.bare (Cy.stepG_callf (main := true) (cs := cs) (w := w) (k := k) (rest := rest) ho hw hk hop hf hname hb htm)).trans rfl))) h
end
/-- From every tape a run to a stop: a tree. -/
theorem tree_of_stops {Stop : Frame → List Frame → World → Prop} {fr : Frame} {fs : List Frame} {v : World} (hT : Cy.Tame PA.funcs Try.funcs false fr fs) (hv : Cy.Tidy v)
    (h : ∀ t, Stops PA.prog (fun m => ∃ fr' fs' v', m = lone fr' (fs' ++ [Cy.trap]) v' ∧ (fr'.mode = .run ∨ fr'.mode = .returning) ∧ ∀ t, Stop fr' fs' (Cy.onTape v' t)) (lone fr (fs ++ [Cy.trap]) { v with tape := t })) :
    Cy.Tree Try.progTables PA.funcs Try.funcs Stop fr fs v := by
  refine Cy.tree_of_sure PA.shuts (fr, fs, v) ⟨hT, hv, fun t _ => ?_⟩
  obtain ⟨m', ⟨N, hN⟩, fr', fs', v', rfl, hm, hs⟩ := h t
  exact ⟨N, fr', fs', v', hN, hm, Cy.Tree.stop hs⟩
end Go.Proofs.Ytpolipcicfjkiaa
/- Dry up to its call of both. Conditions: none. -/
namespace Go.Proofs.Ytpolipcicfjkiaa
open Go.RowKit

theorem goS_seq2 {P : Program} {S : Machine → Prop} {b : Frame} {k : List Item} {cs : List Frame} {a : Act} {w : World} {x y : Code}
    (h : ∀ (K : Act → World → Prop) (Q : Exit → Act → World → Prop), (∀ a w, GoS P S b k cs y a w → K a w) → (∀ e a w, OutS P S b k cs e a w → Q e a w) → x.wp P (Exit.then K Q) a w) : GoS P S b k cs (x.seq y) a w :=
  goS_seq fun K hK => h K _ hK fun _ _ _ h => h
noncomputable def code13 : Code := (Try.f13.body).getD .skip
set_option maxRecDepth 20000 in
set_option maxHeartbeats 1000000 in
theorem dry_stop {S : Machine → Prop} {cs : List Frame} (v : Value) (y : CY) (w : World) (hv : YAt w v y) (hval : yValid y = true)
    (h : ∀ m, S m) :
    GoS PA.prog S (Go.Conc.base 13) [] cs code13 { tmps := #[v, undef, undef, undef, undef, undef, undef, undef, undef, undef, undef, undef, undef, undef, undef, undef, undef, undef, undef, undef, undef, undef], defers := [] } w := by
  have h2 : yChk y = 0 := by simp [yChk, hval]
  have hb0 : ∀ x, Below w.heap.size w (w.alloc x) := fun x => (Below.refl _ _).alloc (Nat.le_refl _) _
  have HV := Lib.hid hv
  obtain ⟨pv, rfl, _⟩ := hv
  simp only [code13, Try.f13, Option.getD_some]
  refine goS_seq2 fun K Q hK hQ => ?_
  go_wp2_with fail
  refine goS_seq2 fun K Q hK hQ => ?_
  go_wp2_with (go_at_call 27; refine (yCheck_any _ _ _ (HV.out.below (hb0 _))).mono ?_; rintro e w1 ⟨rfl, hb1⟩; have HB1 := Lib.hid hb1; clear hb1)
  have hbx : w1.heap[w.heap.size]? = some (.cells #[I y.size, I y.start, pv] 24) := by
    rw [HB1.out.block _ (by simp)]
    exact (Cy.hb_new w _).blk
  have c0 := Cy.cell_blk (i := 0) hbx rfl
  have c1 := Cy.cell_blk (i := 1) hbx rfl
  have c2 := Cy.cell_blk (i := 2) hbx rfl
  refine goS_into ?_
  refine goS_region ?_
  show GoL _ _ _ _ _ _ [0, 1, 2, 3, 4, 5, 6] _ _
  refine goL_value rfl rfl (v := .agg #[I y.size, I y.start, pv]) (w' := w1) (by simp [execOp, go_sem, Act.eval, c0, c1, c2]) ?_
  refine goL_here ?_
  exact h _
end Go.Proofs.Ytpolipcicfjkiaa
/- What is left to run, told from between the phases: runs that come to such a place, and to the end. Conditions: none. -/
namespace Go.Proofs.Ytpolipcicfjkiaa.Cy
open Go Go.Conc Go.RowKit Go.Proofs
open Go.ConcN (sumTo)

/-- The end that is wanted. -/
def Fin (Post : Value → World → Prop) (m : Machine) (t : Trace) : Prop := ∃ N last o w' t', runNT Try.prog (N + 1) m t = (.ended o w', t') ∧ runN Try.prog N m = .next last ∧ step Try.prog last = .ended o w' ∧ Go.Conc.Good Try.prog Post last o w' t'

theorem Fin.back {Post : Value → World → Prop} {m m' : Machine} {t t' : Trace} {M : Nat} (h : runNT Try.prog M m t = (.next m', t')) (hf : Fin Post m' t') : Fin Post m t := by
  obtain ⟨N, last, o, w', t2, h1, h2, h3, h4⟩ := hf
  refine ⟨M + N, last, o, w', t2, ?_, ?_, h3, h4⟩
  · rw [Nat.add_assoc, runNT_add M (N + 1) _ _ _ _ h]
    exact h1
  · have e1 := congrArg Prod.fst (runNT_add M N _ _ _ _ h)
    rw [runNT_fst, runNT_fst, h2] at e1
    exact e1

section
variable (B : Nat) (w0 : World) (Post : Value → World → Prop)
/-- The old blocks are as they were. -/
structure Old (w : World) : Prop where
  kept : ∀ b, b < B → w.heap[b]? = w0.heap[b]?
  size : B ≤ w.heap.size
  out : w.output = w0.output
  os : w.os = w0.os
  tape : w.tape = w0.tape
/-- What is left to run from here comes to the end that is wanted; the old blocks are kept from the view. -/
def Ok (fr : Frame) (fs : List Frame) (v : World) : Prop :=
  ∀ (Shun : Loc → Prop) (gs : Array Goroutine) (w : World) (sl : Option (Nat × Nat)) (t : Trace) (cls : Nat → Cls), MS Shun gs w t cls fr fs → v.heap = (view cls 0 w).heap → (∀ b, b < B → cls b = .none) → Old B w0 w → Fin Post (crowd gs w sl) t
variable (c0 : Nat → Cls)
/-- .. ahead of the first phase: the old blocks are seen, but for those that are not rows. -/
def Ok0 (fr : Frame) (fs : List Frame) (v : World) : Prop :=
  ∀ (gs : Array Goroutine) (w : World) (sl : Option (Nat × Nat)) (t : Trace) (cls : Nat → Cls), MS (fun _ => False) gs w t cls fr fs → v.heap = (view cls 0 w).heap → (∀ b, b < B → cls b = c0 b) → (∀ b, b < B → c0 b = .none → w.heap[b]? = w0.heap[b]?) →
    w.output = w0.output → w.os = w0.os → w.tape = w0.tape → Fin Post (crowd gs w sl) t
/-- A lone machine that stands at such a place. -/
def At (Q : Frame → List Frame → World → Prop) (m : Machine) : Prop := ∃ fr fs v, m = lone fr (fs ++ [trap]) v ∧ (fr.mode = .run ∨ fr.mode = .returning) ∧ Q fr fs v
end

theorem run_tree {Q : Frame → List Frame → World → Prop} {Shun : Loc → Prop} {gs : Array Goroutine} {w v : World} {sl : Option (Nat × Nat)} {t : Trace} {cls : Nat → Cls} {fr : Frame} {fs : List Frame} (hQ : ∀ fr fs v v', Q fr fs v → v'.heap = v.heap → Q fr fs v')
    (hM : MS Shun gs w t cls fr fs) (hv : v.heap = (view cls 0 w).heap) (hT : Tame PA.funcs Try.funcs false fr fs) (h : ∀ V : World, V.heap = v.heap → Stops PA.prog (At Q) (lone fr (fs ++ [trap]) V)) :
    ∃ (N : Nat) (gs' : Array Goroutine) (w' : World) (sl' : Option (Nat × Nat)) (t' : Trace) (fr' : Frame) (fs' : List Frame) (v' : World),
      runNT Try.prog N (crowd gs w sl) t = (.next (crowd gs' w' sl'), t') ∧ MS Shun gs' w' t' (clsN cls w.heap.size) fr' fs' ∧ Q fr' fs' v' ∧ v'.heap = (view (clsN cls w.heap.size) 0 w').heap ∧ v'.os = w'.os ∧ w.heap.size ≤ w'.heap.size ∧ w'.output = w.output ∧ w'.tape = w.tape ∧ w'.os = w.os ∧ ∀ b, b < w.heap.size → cls b = .none → w'.heap[b]? = w.heap[b]? := by
  refine tree_ms hM (tree_of_stops hT hM.tidy fun t => ?_)
  obtain ⟨m', h1, fr', fs', v', rfl, hm, hq⟩ := h { view cls 0 w with tape := t } hv.symm
  exact ⟨_, h1, fr', fs', v', rfl, hm, fun t => hQ _ _ _ _ hq rfl⟩

section
variable {B : Nat} {w0 : World} {Post : Value → World → Prop} {c0 : Nat → Cls} {fr : Frame} {fs : List Frame} {v : World}
theorem Ok.congr (h : Ok B w0 Post fr fs v) {v' : World} (e : v'.heap = v.heap) : Ok B w0 Post fr fs v' := fun Shun gs w sl t cls h1 h2 h3 h4 => h Shun gs w sl t cls h1 (e.symm.trans h2) h3 h4
theorem Ok0.congr (h : Ok0 B w0 Post c0 fr fs v) {v' : World} (e : v'.heap = v.heap) : Ok0 B w0 Post c0 fr fs v' := fun gs w sl t cls h1 h2 h3 h4 => h gs w sl t cls h1 (e.symm.trans h2) h3 h4


/-- The stop of a walk. -/
abbrev AtOk (B : Nat) (w0 : World) (Post : Value → World → Prop) : Machine → Prop := At (Ok B w0 Post)
abbrev AtOk0 (B : Nat) (w0 : World) (Post : Value → World → Prop) (c0 : Nat → Cls) : Machine → Prop := At (Ok0 B w0 Post c0)

theorem tree_ok (hT : Tame PA.funcs Try.funcs false fr fs) (h : ∀ V : World, V.heap = v.heap → Stops PA.prog (AtOk B w0 Post) (lone fr (fs ++ [trap]) V)) : Ok B w0 Post fr fs v := by
  intro Shun gs w sl t cls hM hv hc hO
  obtain ⟨N, gs', w', sl', t', fr', fs', v', h1, h2, h3, h4, h5, h6, h7, h8, h10, h9⟩ := run_tree (sl := sl) (Q := Ok B w0 Post) (fun _ _ _ _ h e => Ok.congr h e) hM hv hT h
  refine Fin.back h1 (h3 _ _ _ sl' _ _ h2 h4 (fun b hb => ?_) ⟨fun b hb => ?_, Nat.le_trans hO.size h6, h7.trans hO.out, h10.trans hO.os, h8.trans hO.tape⟩)
  · unfold clsN
    rw [if_pos (Nat.lt_of_lt_of_le hb hO.size)]
    exact hc b hb
  · rw [h9 b (Nat.lt_of_lt_of_le hb hO.size) (hc b hb)]
    exact hO.kept b hb

theorem tree_ok0 (hT : Tame PA.funcs Try.funcs false fr fs) (h : ∀ V : World, V.heap = v.heap → Stops PA.prog (AtOk0 B w0 Post c0) (lone fr (fs ++ [trap]) V)) (hB : B ≤ v.heap.size) : Ok0 B w0 Post c0 fr fs v := by
  intro gs w sl t cls hM hv hc hk ho1 ho2 ho3
  obtain ⟨N, gs', w', sl', t', fr', fs', v', h1, h2, h3, h4, h5, h6, h7, h8, h10, h9⟩ := run_tree (sl := sl) (Q := Ok0 B w0 Post c0) (fun _ _ _ _ h e => Ok0.congr h e) hM hv hT h
  have hsz : B ≤ w.heap.size := by rw [hv, view_size] at hB; exact hB
  refine Fin.back h1 (h3 _ _ sl' _ _ h2 h4 (fun b hb => ?_) (fun b hb hb0 => ?_) (h7.trans ho1) (h10.trans ho2) (h8.trans ho3))
  · unfold clsN
    rw [if_pos (Nat.lt_of_lt_of_le hb hsz)]
    exact hc b hb
  · rw [h9 b (Nat.lt_of_lt_of_le hb hsz) ((hc b hb).trans hb0)]
    exact hk b hb hb0

/-- What is seen stays seen: the old blocks are as they were. -/
theorem old_of {cls : Nat → Cls} {w : World} (htwo : ∀ b, cls b = .none ∨ cls b = .mine 0) (hb : ∀ b, b < B → v.heap[b]? = (view c0 0 w0).heap[b]?) (hv : v.heap = (view cls 0 w).heap) (hc : ∀ b, b < B → cls b = c0 b) (hk : ∀ b, b < B → c0 b = .none → w.heap[b]? = w0.heap[b]?) :
    ∀ b, b < B → w.heap[b]? = w0.heap[b]? := by
  intro b hbB
  rcases htwo b with e | e
  · exact hk b hbB ((hc b hbB).symm.trans e)
  · have e2 := hb b hbB
    rw [hv, view_get, view_get] at e2
    have e3 : c0 b = .mine 0 := (hc b hbB).symm.trans e
    have key : ∀ (c : Nat → Cls) (x : Option Obj), c b = .mine 0 → x.map (seenO c 0 b) = x := fun c x hx => by cases x <;> simp [seenO, hx]
    rw [key _ _ e, key _ _ e3] at e2
    exact e2

/-- The old blocks are hidden from here on. -/
theorem ok0_of (hb : ∀ b, b < B → v.heap[b]? = (view c0 0 w0).heap[b]?) (hB : B ≤ v.heap.size)
    (h : ∀ v' : World, v'.heap.size = v.heap.size → (∀ b, B ≤ b → v'.heap[b]? = v.heap[b]?) → Ok B w0 Post fr fs v') : Ok0 B w0 Post c0 fr fs v := by
  intro gs w sl t cls hM hv hc hk ho1 ho2 ho3
  have hsz : B ≤ w.heap.size := by rw [hv, view_size] at hB; exact hB
  let cls1 : Nat → Cls := fun b => if b < B then .none else cls b
  have e1 : ∀ b, b < B → cls1 b = .none := fun b hb => by show (if _ then _ else _) = _; rw [if_pos hb]
  have e2 : ∀ b, B ≤ b → cls1 b = cls b := fun b hb => by show (if _ then _ else _) = _; rw [if_neg (by omega)]
  have hM1 : MS (fun _ => False) gs w t cls1 fr fs := ⟨hM.h0, hM.leav, hM.past, fun b => by
      by_cases hb : b < B
      · exact .inl (e1 b hb)
      · rw [e2 b (by omega)]; exact hM.two b, fun l hl => hl.elim, tidy_view fun b o hm ho => by
      have hbB : B ≤ b := by
        apply Classical.byContradiction
        intro hb
        rw [e1 b (by omega)] at hm
        cases hm
      rw [e2 b hbB] at hm
      exact hM.tidy b o (seen_at ho hm)⟩
  refine h (view cls1 0 w) (by rw [view_size, hv, view_size]) (fun b hb => ?_) _ gs w sl t cls1 hM1 rfl e1 ⟨old_of hM.two hb hv hc hk, hsz, ho1, ho2, ho3⟩
  rw [hv, view_get, view_get]
  cases w.heap[b]? <;> simp [seenO, e2 b hb]

/-- The end. -/
theorem fin_end {Shun : Loc → Prop} {gs : Array Goroutine} {w : World} {sl : Option (Nat × Nat)} {t : Trace} {cls : Nat → Cls} {a : Act} {todo : List Item} (hM : MS Shun gs w t cls { (Go.Conc.base 3).at a todo with mode := .returning } []) (ha : a.defers = []) (h6 : a.tmps[6]? = some (.bool true))
    (hp : ∀ d, Post (.bool true) (w.at d)) : Fin Post (crowd gs w sl) t := by
  obtain ⟨q, hL⟩ := hM.leav
  refine beside_ends (Shun := Shun) (B := w.heap.size) (D := D0) (n := 0) (fun w w' es hd e he => by rw [show es = #[] from hd] at he; simp at he) hM.h0 hL hM.past ?_
  intro w1 h1
  obtain ⟨d, rfl⟩ := h1
  refine ⟨rfl, .bool true, #[], ?_, fun e he => by simp at he, hp d⟩
  have hf : Try.prog.funcs[3]? = some Try.f3 := Try.func3
  have hi : Try.prog.inits.idxOf? 3 = none := by kernel_rfl
  have hr : (results Try.f3 a.tmps).run Try.prog (w.at d) = .ok (.bool true) (w.at d) := by
    simp [results, Try.results3, go_sem, h6]
  have he : (results Try.f3 a.tmps).events Try.prog (w.at d) #[] = #[] := by
    simp [results, Try.results3, go_sem, h6]
  simp [G, stepG, unwind, doReturn, Frame.at, Go.Conc.base, ha, hf, hr, he, seen, GStep.after]

theorem end_ok {a : Act} {todo : List Item} (ha : a.defers = []) (h6 : a.tmps[6]? = some (.bool true)) (hp : ∀ w, Old B w0 w → Post (.bool true) w) : Ok B w0 Post { (Go.Conc.base 3).at a todo with mode := .returning } [] v :=
  fun _ _ _ _ _ _ hM _ _ hO => fin_end hM ha h6 fun _ => hp _ ⟨hO.kept, hO.size, hO.out, hO.os, hO.tape⟩
theorem end_ok0 {a : Act} {todo : List Item} (ha : a.defers = []) (h6 : a.tmps[6]? = some (.bool true)) (hp : ∀ w, Old B w0 w → Post (.bool true) w) (hb : ∀ b, b < B → v.heap[b]? = (view c0 0 w0).heap[b]?) (hB : B ≤ v.heap.size) : Ok0 B w0 Post c0 { (Go.Conc.base 3).at a todo with mode := .returning } [] v :=
  fun _ w _ _ _ hM hv hc hk ho1 ho2 ho3 => fin_end hM ha h6 fun _ => hp _ ⟨old_of (w := w) hM.two hb hv hc hk, by rw [hv, view_size] at hB; exact hB, ho1, ho2, ho3⟩

/-- ████ A CALL OF both. ████ -/
theorem call_ok {b0 : Frame} {a0 : Act} {ops0 : Array Oper} {i0 : Nat} {rest0 : List Nat} {k0 : List Item} {fs : List Frame} {o0 : Oper} {x : Operand} (ho : ops0[i0]? = some o0) (hw : Region.wanted o0 (yielded ops0 a0.tmps) = true) (hk : b0.kind ≠ .early)
    (hop : o0.op = .call { callee := .value (.func 28), args := #[x], argTypes := #[24] }) {size start : Int} {sy : Option Addr} {o n capc fb : Nat} {dc : Array Value} {dsL dsH : List (Int × Int)} {SX : List (Nat × Array Value × TypeId)} (hx : a0.eval x = .agg #[.int .i64 size, .int .i64 start, .slice sy n capc])
    (hL : YearOK fb sy o n dc 0 dsL) (hH : YearOK fb sy o n dc 1 dsH) (hX : Rows59 SX) (hfb : 0 < n → (fb, dc, 59) ∈ SX) (hn0 : n = 0 → ∀ p ∈ SX, p.1 ≠ fb) (hS : ∀ p ∈ SX, v.heap[p.1]? = some (.cells p.2.1 p.2.2))
    (hnext : ∀ (a8 : Act) (yb db wb Wg : Nat) (v' : World), At28 yb db wb Wg a8 → v.heap.size ≤ v'.heap.size → (∀ p ∈ SX, v'.heap[p.1]? = some (.cells p.2.1 p.2.2)) → Left db n (accD 0 (runD size (if size < start then size else start) dsL)) v' → Left wb n (accD 0 (runD size (if size < start then size else start) dsH)) v' →
      Ok B w0 Post (b28f.at a8 (.inRegion (opsO (r28 Try.f28 8)) [] :: k8 Try.f28)) (b0.at a0 (.inRegion ops0 (i0 :: rest0) :: k0) :: fs) v') : Ok B w0 Post (b0.at a0 (.inRegion ops0 (i0 :: rest0) :: k0)) fs v := by
  intro Shun gs w sl t cls hM hv hc hO
  obtain ⟨N, gs', w', sl', t', cls', Shun', a8, yb, db, wb, Wg, h1, h2, h3, h4, h5, h6, h7, h8, h9, h10, h11⟩ := both_phase (sl := sl) hM ho hw hk hop hx hL hH hX hfb hn0 (fun p hp => by rw [← hv]; exact hS p hp)
  refine Fin.back h1 (hnext a8 yb db wb Wg (view cls' 0 w') h3 (by rw [hv, view_size, view_size]; exact h4) h5 h6 h7 Shun' gs' w' sl' t' cls' h2 rfl (fun b hb => (h11 b (Nat.lt_of_lt_of_le hb hO.size) (hc b hb)).1)
    ⟨fun b hb => (h11 b (Nat.lt_of_lt_of_le hb hO.size) (hc b hb)).2.trans (hO.kept b hb), Nat.le_trans hO.size h4, h8.trans hO.out, h9.trans hO.os, h10.trans hO.tape⟩)

/-- A frame of a quiet goroutine's that runs. -/
structure TamF (f : Frame) : Prop where
  kind : f.kind = .normal
  mode : f.mode = .run
  defers : f.defers = []
  todo : f.todo.all tameItem = true
  fn : ∃ x y, PA.funcs[f.fn]? = some x ∧ Try.funcs[f.fn]? = some y ∧ y.results = x.results
theorem TamF.tf {f : Frame} (h : TamF f) : TF f := ⟨by rw [h.kind]; exact fun e => (by cases e), fun it hit => List.all_eq_true.1 h.todo it hit⟩
theorem TamF.tr {f : Frame} (h : TamF f) : TR PA.funcs Try.funcs f := ⟨h.kind, fun d hd => by rw [h.defers] at hd; simp at hd, fun _ => h.fn⟩
theorem rets_of : ∀ (l : List Frame), (∀ f ∈ l, TamF f) → Rets PA.funcs Try.funcs false l
  | [], _ => trivial
  | [f], h => (h f (by simp)).tr
  | f :: g :: l, h => ⟨(h f (by simp)).tr, rets_of (g :: l) fun x hx => h x (List.mem_cons_of_mem _ hx)⟩
theorem tame_of {f : Frame} {fs : List Frame} (h : TamF f) (hs : ∀ g ∈ fs, TamF g) : Tame PA.funcs Try.funcs false f fs :=
  ⟨h.tf, .inl h.mode, fun g hg => ⟨(hs g hg).tf, (hs g hg).mode⟩, rets_of (f :: fs) fun x hx => by
    rcases List.mem_cons.1 hx with rfl | hx
    · exact h
    · exact hs x hx⟩
end
end Go.Proofs.Ytpolipcicfjkiaa.Cy
/- Walks told between the phases: small laws; what both leaves, handed to whoever called it; a year as the phases know it. Conditions: none. -/
namespace Go.Proofs.Ytpolipcicfjkiaa
open Go.RowKit
open Go.Proofs.Ytpolipcicfjkiaa.Cy (stepD runD accD)

section
variable {P : Program} {S : Machine → Prop} {b : Frame} {k : List Item} {cs : List Frame} {a : Act} {w : World} {ops : Array Oper}
/-- A function's return: on in whoever called. -/
theorem outS_back {f : FuncId} {fn : Func} {c : Frame} {v : Value} (hf : P.funcs[f]? = some fn) (hr : (results fn a.tmps).run P w = .ok v w) (hd : a.defers = []) (h : Stops P S (lone (c.finish v) cs w)) : OutS P S (Go.Conc.base f) k (c :: cs) .ret a w :=
  outS_ret fun _ => Stops.of_steps (.one (step_leave_returned ⟨rfl, hd, rfl, fn, hf, hr⟩)) h
theorem finish_in {i : Nat} {rest : List Nat} {o : Oper} {v : Value} (ho : ops[i]? = some o) : (b.at a (.inRegion ops (i :: rest) :: k)).finish v = b.at (a.put o.dst v) (.inRegion ops rest :: k) := by
  rw [Frame.finish_at, ho]; rfl
theorem goL_back {i : Nat} {rest : List Nat} {o : Oper} {v : Value} (ho : ops[i]? = some o) (h : GoL P S b k cs ops rest (a.put o.dst v) w) : Stops P S (lone ((b.at a (.inRegion ops (i :: rest) :: k)).finish v) cs w) := by
  rw [finish_in ho]; exact h
end

theorem setCell_same {V : World} {b i : Nat} {c : Array Value} {e : TypeId} {v : Value} (h : V.heap[b]? = some (.cells c e)) (hv : c[i]? = some v) : (V.setCell ⟨b, i, none⟩ v).heap = V.heap := by
  apply Array.ext_getElem?
  intro j
  by_cases hj : j = b
  · subst hj
    obtain ⟨hi, hv'⟩ := Array.getElem?_eq_some_iff.1 hv
    have hlt := (Array.getElem?_eq_some_iff.1 h).1
    have hc : c.setIfInBounds i v = c := by
      apply Array.ext_getElem?
      intro m
      by_cases hm : i = m
      · subst hm
        rw [Array.getElem?_setIfInBounds_self_of_lt hi, hv]
      · rw [Array.getElem?_setIfInBounds_ne hm]
    have h2 := (Array.getElem?_eq_some_iff.1 h).2
    rw [h, Array.getElem?_eq_getElem (by unfold World.setCell; simpa using hlt)]
    unfold World.setCell
    rw [Array.getElem_modify_self, h2]
    simp [hc]
  · exact Cy.setCell_ne _ _ _ hj

/-- From behind both's join to whoever called it. -/
theorem both_back {S : Machine → Prop} {yb db wb Wg : Nat} {a8 : Act} (h8 : Cy.At28 yb db wb Wg a8) {V : World} {vd vw : Value} {A1 A2 : Option Addr} {n1 n2 c1 c2 : Nat} (e1 : vd = .slice A1 n1 c1) (e2 : vw = .slice A2 n2 c2) (hd : V.heap[db]? = some (.cells #[vd] 60)) (hw : V.heap[wb]? = some (.cells #[vw] 60)) {c : Frame} {cs : List Frame}
    (h : ∀ V' : World, V'.heap = V.heap → Stops PA.prog S (lone (c.finish (.tuple #[vd, vw])) cs V')) :
    Stops PA.prog S (lone (Cy.b28f.at a8 (.inRegion (Cy.opsO (Cy.r28 Try.f28 8)) [] :: Cy.k8 Try.f28)) (c :: cs) V) := by
  subst e1 e2
  obtain ⟨x0, x5, x6, x7, x8, x9, x10, x11, x12, x13, x14, x15, x16, x17, x18, x19, x20, x21, x22, rfl⟩ := h8
  refine goL_end ?_
  show GoS PA.prog S (Go.Conc.base 28) [] (c :: cs) (.seq (.region 9 (Cy.opsO (Cy.r28 Try.f28 9)) false) .ret) _ _
  refine goS_last ?_
  have k0 := Cy.cell_blk (i := 0) hd rfl
  have k1 := Cy.cell_blk (i := 0) hw rfl
  have t0 := Cy.thaw_blk (i := 0) hd
  have t1 := Cy.thaw_blk (i := 0) hw
  have e1 : (V.setCell ⟨db, 0, none⟩ (.slice A1 n1 c1)).heap = V.heap := setCell_same hd rfl
  have hw1 : (V.setCell ⟨db, 0, none⟩ (.slice A1 n1 c1)).heap[wb]? = some (.cells #[.slice A2 n2 c2] 60) := by rw [e1]; exact hw
  have e2 : ((V.setCell ⟨db, 0, none⟩ (.slice A1 n1 c1)).setCell ⟨wb, 0, none⟩ (.slice A2 n2 c2)).heap = V.heap := (setCell_same hw1 rfl).trans e1
  have t2 := Cy.thaw_blk (i := 0) hw1
  have m1 := Cy.cell_blk (i := 0) hw1 rfl
  have hd2 : ((V.setCell ⟨db, 0, none⟩ (.slice A1 n1 c1)).setCell ⟨wb, 0, none⟩ (.slice A2 n2 c2)).heap[db]? = some (.cells #[.slice A1 n1 c1] 60) := by rw [e2]; exact hd
  have hw2 : ((V.setCell ⟨db, 0, none⟩ (.slice A1 n1 c1)).setCell ⟨wb, 0, none⟩ (.slice A2 n2 c2)).heap[wb]? = some (.cells #[.slice A2 n2 c2] 60) := by rw [e2]; exact hw
  have f0 := Cy.cell_blk (i := 0) hd2 rfl
  have f1 := Cy.cell_blk (i := 0) hw2 rfl
  simp only [Cy.opsO, Cy.r28, Cy.e28, Cy.b28, Cy.sqL, Cy.sqR, Cy.codeOf, Try.f28]
  go_wp2_with fail
  exact outS_back PA.func28 (v := .tuple #[.slice A1 n1 c1, .slice A2 n2 c2]) (by simp [results, show (PA.shut Try.f28).results = Try.f28.results from rfl, Try.results28, go_sem, f0, f1]) rfl (h _ e2)

/-- A year as the phases know it. -/
structure Yr (y : CY) (yv : Value) (sy : Option Addr) (n capc fb : Nat) (dc : Array Value) : Prop where
  val : yv = .agg #[I y.size, I y.start, .slice sy n capc]
  len : y.days.length = n
  low : Cy.YearOK fb sy 0 n dc 0 (lowD y)
  high : Cy.YearOK fb sy 0 n dc 1 (highD y)
  at_ : ∀ V : World, (0 < n → V.heap[fb]? = some (.cells dc 59)) → YAt V yv y

theorem yr_of_own {w : World} {base : Nat} {yv : Value} {y : CY} (h : OwnYear w base yv y) (hl : y.days.length ≤ 366) : ∃ sy n capc fb dc, Yr y yv sy n capc fb dc ∧ (0 < n → base ≤ fb ∧ w.heap[fb]? = some (.cells dc 59)) := by
  obtain ⟨pv, rfl, h1, h2⟩ := h
  rcases h2 with ⟨rfl, h0⟩ | ⟨g, cap, cur, rfl, hb, hg, hn, hc, hs, ht⟩
  · have hd : y.days = [] := List.eq_nil_of_length_eq_zero h0
    refine ⟨none, 0, 0, 0, #[], ⟨rfl, h0, ⟨by simp [lowD, hd], by omega, fun h => absurd h (by omega), fun i d hi => by simp [lowD, hd] at hi⟩, ⟨by simp [highD, hd], by omega, fun h => absurd h (by omega), fun i d hi => by simp [highD, hd] at hi⟩,
      fun V _ => ⟨_, rfl, ?_⟩⟩, fun h => absurd h (by omega)⟩
    exact ⟨h1, none, 0, by rw [h0], by omega, by omega, fun h => by omega⟩
  · have key : ∀ (i : Nat) (p : Pt), y.days[i]? = some p → cur[i * 3]? = some (I p.lo) ∧ cur[i * 3 + 1]? = some (I p.hi) ∧ cur[i * 3 + 2]? = some (I p.cost) := by
      intro i p hp
      obtain ⟨hi, rfl⟩ := List.getElem?_eq_some_iff.1 hp
      obtain ⟨e0, e1, e2⟩ := ptCells_at _ _ hi
      have e : ∀ j, j < y.days.length * 3 → cur[j]? = (ptCells y.days)[j]? := fun j hj => by
        rw [← ht, List.getElem?_take_of_lt hj, Array.getElem?_toList]
      rw [e _ (by omega), e _ (by omega), e _ (by omega)]
      exact ⟨e0, e1, e2⟩
    refine ⟨some ⟨g, 0, none⟩, y.days.length, cap, g, cur, ⟨rfl, rfl, ⟨by simp [lowD], hl, fun _ => rfl, fun i d hi => ?_⟩, ⟨by simp [highD], hl, fun _ => rfl, fun i d hi => ?_⟩, fun V hV => ⟨_, rfl, ?_⟩⟩, fun _ => ⟨hb, hg⟩⟩
    · simp only [lowD, List.getElem?_map, Option.map_eq_some_iff] at hi
      obtain ⟨p, hp, rfl⟩ := hi
      obtain ⟨e0, e1, e2⟩ := key i p hp
      simp only [Nat.zero_add, Nat.add_zero]
      exact ⟨e0, e2, ⟨_, e0⟩, _, e1⟩
    · simp only [highD, List.getElem?_map, Option.map_eq_some_iff] at hi
      obtain ⟨p, hp, rfl⟩ := hi
      obtain ⟨e0, e1, e2⟩ := key i p hp
      simp only [Nat.zero_add]
      exact ⟨e1, e2, ⟨_, e0⟩, _, e1⟩
    · by_cases h0 : 0 < y.days.length
      · exact Reads.of_own (base := 0) (e := 59) ⟨h1, .inr ⟨g, cap, cur, rfl, Nat.zero_le _, hV h0, hn, hc, hs, ht⟩⟩
      · exact ⟨h1, some ⟨g, 0, none⟩, cap, rfl, hn, hc, fun h => absurd h h0⟩

/-- A number that is none of these. -/
theorem fresh_of (SX : List (Nat × Array Value × TypeId)) : ∃ k, ∀ p ∈ SX, p.1 ≠ k := by
  have : ∀ (l : List (Nat × Array Value × TypeId)), ∃ k, ∀ p ∈ l, p.1 < k := by
    intro l
    induction l with
    | nil => exact ⟨0, fun p hp => by simp at hp⟩
    | cons q l ih =>
      obtain ⟨k, hk⟩ := ih
      refine ⟨max k (q.1 + 1), fun p hp => ?_⟩
      rcases List.mem_cons.1 hp with rfl | hp
      · omega
      · have := hk p hp; omega
  obtain ⟨k, hk⟩ := this SX
  exact ⟨k, fun p hp => by have := hk p hp; omega⟩

theorem cell_heap {V V' : World} (e : V'.heap = V.heap) (a : Addr) : V'.cell? a = V.cell? a := by
  unfold World.cell?
  rw [e]
theorem pts_heap {V V' : World} {v : Value} {ps : List Pt} (h : Pts V v ps) (e : V'.heap = V.heap) : Pts V' v ps := by
  obtain ⟨h1, A, c, h2, h3, h4, h5⟩ := h
  refine ⟨h1, A, c, h2, h3, h4, fun hn => ?_⟩
  obtain ⟨b, o, ha, hc⟩ := h5 hn
  exact ⟨b, o, ha, fun j u hu => by rw [cell_heap e]; exact hc j u hu⟩

/-- What stands. -/
def StX (SX : List (Nat × Array Value × TypeId)) (v : World) : Prop := ∀ p ∈ SX, v.heap[p.1]? = some (.cells p.2.1 p.2.2)
theorem StX.heap {SX : List (Nat × Array Value × TypeId)} {v v' : World} (h : StX SX v) (e : v'.heap = v.heap) : StX SX v' := fun p hp => by rw [e]; exact h p hp
theorem StX.below {SX : List (Nat × Array Value × TypeId)} {v v' : World} (h : StX SX v) (hb : ∀ k, k < v.heap.size → v'.heap[k]? = v.heap[k]?) : StX SX v' := fun p hp => (hb _ (Array.getElem?_eq_some_iff.1 (h p hp)).1).trans (h p hp)

/-- A call of both, of a year. -/
theorem call_yr {B : Nat} {w0 v : World} {Post : Value → World → Prop} {b0 : Frame} {a0 : Act} {ops0 : Array Oper} {i0 : Nat} {rest0 : List Nat} {k0 : List Item} {fs : List Frame} {o0 : Oper} {x : Operand} (ho : ops0[i0]? = some o0) (hw : Region.wanted o0 (yielded ops0 a0.tmps) = true) (hk : b0.kind ≠ .early)
    (hop : o0.op = .call { callee := .value (.func 28), args := #[x], argTypes := #[24] }) {y : CY} {yv : Value} {sy : Option Addr} {n capc fb : Nat} {dc : Array Value} {SX : List (Nat × Array Value × TypeId)} (hY : Yr y yv sy n capc fb dc) (hx : a0.eval x = yv)
    (hX : Cy.Rows59 SX) (hfb : 0 < n → (fb, dc, 59) ∈ SX) (hS : StX SX v) (hT : Cy.TamF (b0.at a0 (.inRegion ops0 (i0 :: rest0) :: k0))) (hTs : ∀ f ∈ fs, Cy.TamF f)
    (hnext : ∀ (V : World) (vd vw : Value), v.heap.size ≤ V.heap.size → StX SX V → Pts V vd (daysL 0 (runD y.size (if y.size < y.start then y.size else y.start) (lowD y))) → Pts V vw (daysL 0 (runD y.size (if y.size < y.start then y.size else y.start) (highD y))) →
      Stops PA.prog (Cy.AtOk B w0 Post) (lone (b0.at (a0.put o0.dst (.tuple #[vd, vw])) (.inRegion ops0 rest0 :: k0)) (fs ++ [Cy.trap]) V)) : Cy.Ok B w0 Post (b0.at a0 (.inRegion ops0 (i0 :: rest0) :: k0)) fs v := by
  have hn : (runD y.size (if y.size < y.start then y.size else y.start) (lowD y)).length = n := by rw [runD_len]; exact hY.low.len
  have hn' : (runD y.size (if y.size < y.start then y.size else y.start) (highD y)).length = n := by rw [runD_len]; exact hY.high.len
  have hgo : ∀ fb', (0 < n → fb' = fb) → (n = 0 → ∀ p ∈ SX, p.1 ≠ fb') → Cy.Ok B w0 Post (b0.at a0 (.inRegion ops0 (i0 :: rest0) :: k0)) fs v := by
    intro fb' h1 h2
    have hL : Cy.YearOK fb' sy 0 n dc 0 (lowD y) := ⟨hY.low.len, hY.low.few, fun h => by rw [h1 h]; exact hY.low.at_ h, hY.low.day⟩
    have hH : Cy.YearOK fb' sy 0 n dc 1 (highD y) := ⟨hY.high.len, hY.high.few, fun h => by rw [h1 h]; exact hY.high.at_ h, hY.high.day⟩
    refine Cy.call_ok ho hw hk hop (hx.trans hY.val) hL hH hX (fun h => by rw [h1 h]; exact hfb h) h2 hS ?_
    intro a8 yb db wb Wg v' h8 hsz hS' hLd hLw
    refine Cy.tree_ok (Cy.tame_of ⟨rfl, rfl, ?_, (show ([Item.inRegion (Cy.opsO (Cy.r28 Try.f28 8)) []] ++ Cy.k8 Try.f28).all Cy.tameItem = true by decide +kernel), ?_⟩ fun f hf => ?_) fun V hV => ?_
    · obtain ⟨x0, x5, x6, x7, x8, x9, x10, x11, x12, x13, x14, x15, x16, x17, x18, x19, x20, x21, x22, rfl⟩ := h8
      rfl
    · exact ⟨_, _, PA.func28, Try.func28, rfl⟩
    · rcases List.mem_cons.1 hf with rfl | hf
      · exact hT
      · exact hTs f hf
    · obtain ⟨vd, hd, hpd⟩ := left_pts hLd hn
      obtain ⟨vw, hw', hpw⟩ := left_pts hLw hn'
      obtain ⟨A1, k1, q1, _⟩ := hpd.open_
      obtain ⟨A2, k2, q2, _⟩ := hpw.open_
      refine both_back h8 q1 q2 (by rw [hV]; exact hd) (by rw [hV]; exact hw') fun V' hV' => ?_
      rw [finish_in ho]
      have hVV : V'.heap = v'.heap := hV'.trans hV
      refine hnext V' vd vw (by rw [hVV]; exact hsz) (StX.heap hS' hVV) (pts_heap hpd hVV) (pts_heap hpw hVV)
  by_cases h0 : n = 0
  · obtain ⟨fb', h⟩ := fresh_of SX
    exact hgo fb' (fun h => by omega) fun _ => h
  · exact hgo fb (fun _ => rfl) fun h => absurd h h0
end Go.Proofs.Ytpolipcicfjkiaa
/- Dry, told between the phases. Conditions: none. -/
namespace Go.Proofs.Ytpolipcicfjkiaa
open Go.RowKit
open Go.Proofs.Ytpolipcicfjkiaa.Cy (stepD runD)

def dryV (y : CY) : Value := if dryY y < 0 then .tuple #[I 0, I 3] else .tuple #[I (dryY y), I 0]

set_option maxRecDepth 20000 in
set_option maxHeartbeats 4000000 in
theorem dry_ok {B : Nat} {w0 v : World} {Post : Value → World → Prop} {b : Frame} {a : Act} {ops : Array Oper} {i : Nat} {rest : List Nat} {k : List Item} {fs : List Frame} {o : Oper} {x : Operand} (ho : ops[i]? = some o) (hw : Region.wanted o (yielded ops a.tmps) = true) (hk : b.kind ≠ .early)
    (hop : o.op = .call { callee := .value (.func 13), args := #[x], argTypes := #[24] }) {y : CY} {yv : Value} {sy : Option Addr} {n capc fb : Nat} {dc : Array Value} {SX : List (Nat × Array Value × TypeId)} (hY : Yr y yv sy n capc fb dc) (hx : a.eval x = yv) (hval : yValid y = true)
    (hX : Cy.Rows59 SX) (hfb : 0 < n → (fb, dc, 59) ∈ SX) (hS : StX SX v) (hT : Cy.TamF (b.at a (.inRegion ops (i :: rest) :: k))) (hTs : ∀ f ∈ fs, Cy.TamF f)
    (hnext : ∀ v' : World, v.heap.size ≤ v'.heap.size → StX SX v' → Cy.Ok B w0 Post (b.at (a.put o.dst (dryV y)) (.inRegion ops rest :: k)) fs v') : Cy.Ok B w0 Post (b.at a (.inRegion ops (i :: rest) :: k)) fs v := by
  obtain rfl := hY.val
  refine Cy.tree_ok (Cy.tame_of hT hTs) fun V hV => ?_
  have hSV := hS.heap hV
  have hsV : v.heap.size = V.heap.size := by rw [hV]
  have hv0 : YAt V (.agg #[I y.size, I y.start, .slice sy n capc]) y := hY.at_ V fun h => hSV _ (hfb h)
  refine goL_call ho hw hk hop PA.func13 (by rfl) (c := code13) rfl (tm := #[.agg #[I y.size, I y.start, .slice sy n capc], undef, undef, undef, undef, undef, undef, undef, undef, undef, undef, undef, undef, undef, undef, undef, undef, undef, undef, undef, undef, undef]) (by
    have : Try.f13.ntmps = 22 := rfl
    simp [hx]) ?_
  have h2 : yChk y = 0 := by simp [yChk, hval]
  have hb0 : ∀ x, Below V.heap.size V (V.alloc x) := fun x => (Below.refl _ _).alloc (Nat.le_refl _) _
  have HV := Lib.hid hv0; clear hv0
  simp only [code13, Try.f13, Option.getD_some]
  refine goS_seq2 fun K Q hK hQ => ?_
  go_wp2_with fail
  refine goS_seq2 fun K Q hK hQ => ?_
  go_wp2_with (go_at_call 27; refine (yCheck_any _ _ _ (HV.out.below (hb0 _))).mono ?_; rintro e w1 ⟨rfl, hb1⟩; have HB1 := Lib.hid hb1; clear hb1)
  have hbx : w1.heap[V.heap.size]? = some (.cells #[I y.size, I y.start, .slice sy n capc] 24) := by
    rw [HB1.out.block _ (by simp)]
    exact (Cy.hb_new V _).blk
  have c0 := Cy.cell_blk (i := 0) hbx rfl
  have c1 := Cy.cell_blk (i := 1) hbx rfl
  have c2 := Cy.cell_blk (i := 2) hbx rfl
  have hbw := bto (hb0 _) HB1.out
  refine goS_into ?_
  refine goS_region ?_
  show GoL _ _ _ _ _ _ [0, 1, 2, 3, 4, 5, 6] _ _
  refine goL_value rfl rfl (v := .agg #[I y.size, I y.start, .slice sy n capc]) (w' := w1) (by simp [execOp, go_sem, Act.eval, c0, c1, c2]) ?_
  refine goL_here ?_
  refine ⟨_, _ :: fs, _, rfl, .inl rfl, ?_⟩
  refine call_yr rfl rfl (by decide) rfl hY rfl hX hfb (hSV.below hbw.block) ⟨rfl, rfl, rfl, by simp only [Frame.at]; decide +kernel, ⟨_, _, PA.func13, Try.func13, rfl⟩⟩ (fun f hf => ?_) ?_
  · rcases List.mem_cons.1 hf with rfl | hf
    · exact hT
    · exact hTs f hf
  intro V2 vd vw hsz2 hS2 hpd hpw
  have hlen : (daysL 0 (runD y.size (if y.size < y.start then y.size else y.start) (lowD y))).length ≤ 1000 := by
    have := hY.low.few
    rw [daysL_len, runD_len, hY.low.len]
    omega
  have hfst : firstL (daysL 0 (runD y.size (if y.size < y.start then y.size else y.start) (lowD y))) 0 = dryY y := by rw [firstL_days]; rfl
  show GoL _ _ _ _ _ _ [2, 3, 4, 5, 6] _ _
  refine goL_value rfl rfl (v := .tuple #[vd, vw]) (w' := V2) (by simp [execOp, go_sem, Act.eval]) ?_
  refine goL_value rfl rfl (v := vd) (w' := V2) (by simp [execOp, go_sem, Act.eval]) ?_
  refine goL_value rfl rfl (v := vw) (w' := V2) (by simp [execOp, go_sem, Act.eval]) ?_
  refine goL_value rfl rfl (v := vd) (w' := V2) (by simp [execOp, go_sem, Act.eval]) ?_
  refine goL_value rfl rfl (v := vw) (w' := V2) (by simp [execOp, go_sem, Act.eval]) ?_
  refine goL_end ?_
  show GoS _ _ _ [] _ _ _ _
  refine goS_last ?_
  have hsz3 : ∀ {w4 : World}, Below V2.heap.size V2 w4 → v.heap.size ≤ w4.heap.size := fun h => by
    have := h.size
    have := hbw.size
    omega
  by_cases hneg : dryY y < 0
  · go_wp2_with (first | (go_at_call 30; refine (firstDay_any _ _ _ hpd hlen).mono ?_; rintro e w3 ⟨rfl, hb3⟩; rw [hfst]) | (go_at_call 29; refine (yNone_any _ _).mono ?_; rw [if_pos hneg]; rintro e w4 ⟨rfl, rfl⟩))
    refine outS_back PA.func13 (v := .tuple #[I 0, I 3]) (by simp [results, Try.results13, go_sem]) rfl ?_
    rw [finish_in ho]
    have hd : dryV y = .tuple #[I 0, I 3] := by unfold dryV; rw [if_pos hneg]
    exact ⟨_, Steps.refl _ _, _, fs, _, rfl, .inl rfl, hd ▸ hnext _ (hsz3 hb3) (hS2.below hb3.block)⟩
  · go_wp2_with (first | (go_at_call 30; refine (firstDay_any _ _ _ hpd hlen).mono ?_; rintro e w3 ⟨rfl, hb3⟩; rw [hfst]) | (go_at_call 29; refine (yNone_any _ _).mono ?_; rw [if_neg (by omega)]; rintro e w4 ⟨rfl, rfl⟩))
    refine outS_back PA.func13 (v := .tuple #[I (dryY y), I 0]) (by simp [results, Try.results13, go_sem]) rfl ?_
    rw [finish_in ho]
    have hd : dryV y = .tuple #[I (dryY y), I 0] := by unfold dryV; rw [if_neg (by omega)]
    exact ⟨_, Steps.refl _ _, _, fs, _, rfl, .inl rfl, hd ▸ hnext _ (hsz3 hb3) (hS2.below hb3.block)⟩
end Go.Proofs.Ytpolipcicfjkiaa
