/- How a whole operation of a quiet code fares in a view and in truth. Conditions: none. -/
import Derived.Test.YtpolipcicfjkiaaK3
import Derived.Conc.Own
namespace Go.Proofs.Ytpolipcicfjkiaa.Cy
open Go


/-- What a quiet operation may come to. -/
def NextOK (F : Array Func) : Next → Prop
  | .value _ | .skip => True
  | .enter f _ => ∃ fn c, F[f]? = some fn ∧ fn.body = some c ∧ tameCode c = true
  | .round _ _ _ a b => tameCode a = true ∧ tameCode b = true
  | _ => False

/-- A function that nobody can call. -/
def ShutFn (x : Func) : Prop := (x.name == "runtime.NumGoroutine") = false ∧ x.body = none ∧ Extern.findNext x = none ∧ Extern.find x = none ∧ (x.name.endsWith ".init") = false

/-- The walk's functions: those that are quiet stand in both; the others are shut in the first. -/
structure Shut (F1 F2 : Array Func) : Prop where
  fn : ∀ (f : Nat) (x : Func), F1[f]? = some x →
    (F2[f]? = some x ∧ (x.name == "runtime.NumGoroutine") = false ∧ ∃ c, x.body = some c ∧ tameCode c = true) ∨ ShutFn x
  size : F1.size = F2.size

section
variable {T : Tables} {F1 F2 : Array Func} {K : Nat → Prop}

theorem callFunc_shut {f : FuncId} {x : Func} (h1 : F1[f]? = some x) (hs : ShutFn x) (args : Array Value) (v : World) : ∃ es, (callFunc f args).runT (Program.mk T F1) v #[] = (.halt (.unsupported (.extern x.name)) v, es) := by
  obtain ⟨hn, hb, hx, hy, hi⟩ := hs
  unfold callFunc
  refine ⟨#[⟨.mark (.extern f), false, true⟩], ?_⟩
  show ((match F1[f]? with | none => _ | some fn => _ : Sem Next)).runT _ _ _ = _
  rw [h1]
  dsimp only
  rw [hn, hb]
  simp only [Bool.false_eq_true, if_false, Option.isNone_none, if_true, hx, hy, hi, Bool.false_and]
  rfl

theorem callFunc_sim (hF : Shut F1 F2) (f : FuncId) (args : Array Value) : (Sim K (Program.mk T F1) (Program.mk T F2)) (callFunc f args) (callFunc f args) (NextOK F1) := by
  unfold callFunc
  refine Sim.program ?_
  show (Sim K (Program.mk T F1) (Program.mk T F2)) (match F1[f]? with | none => _ | some fn => _) (match F2[f]? with | none => _ | some fn => _) _
  cases h1 : F1[f]? with
  | none => exact Sim.halt
  | some x =>
    rcases hF.fn f x h1 with ⟨h2, hn, c, hc, ht⟩ | ⟨hn, hb, hx, hy, hi⟩
    · rw [h2]
      dsimp only
      rw [hn, hc]
      exact Sim.pure ⟨x, c, h1, hc, ht⟩
    · refine Sim.never ?_
      dsimp only
      rw [hn, hb]
      simp only [Bool.false_eq_true, if_false, Option.isNone_none, if_true, hx, hy, hi, Bool.false_and]
      exact never_bind (calm_mark _) fun _ => never_halt _

theorem follow_sim : ∀ (l : List FieldStep) (t : TypeId) (x : Place), (Sim K (Program.mk T F1) (Program.mk T F2)) (follow l t x) (follow l t x) (fun _ => True)
  | [], _, _ => Sim.pure trivial
  | s :: l, t, x => by
    have ih := follow_sim l
    have hg : ∀ t (x : Place), (Sim K (Program.mk T F1) (Program.mk T F2)) (x.get t) (x.get t) (fun _ => True) := fun t x => by
      unfold Place.get; split
      · exact Sim.pure trivial
      · exact loadVar_sim _ _
    unfold follow
    refine Sim.bind (underlying_sim _) fun u _ => ?_
    split
    · split
      · split
        · refine Sim.bind (hg _ _) fun _ _ => Sim.bind (asAddr_sim _) fun _ _ => Sim.bind (fieldPlace_sim _ _) fun _ _ => ih _ _
        · split
          · exact Sim.bind (fieldPlace_sim _ _) fun _ _ => ih _ _
          · exact Sim.bind (part_sim _ _ _) fun _ _ => ih _ _
          · exact Sim.halt
      · exact Sim.halt
    · exact Sim.halt

theorem get_sim (t : TypeId) (x : Place) : (Sim K (Program.mk T F1) (Program.mk T F2)) (x.get t) (x.get t) (fun _ => True) := by
  unfold Place.get; split
  · exact Sim.pure trivial
  · exact loadVar_sim _ _

theorem wrapNil_sim (xt : TypeId) (ptr : Value) (m : ByteArray) (e : ByteArray) : (Sim K (Program.mk T F1) (Program.mk T F2)) (Builtin.ssaWrapNilChk_ #[xt] xt #[ptr, .string e, .string m]) (Builtin.ssaWrapNilChk_ #[xt] xt #[ptr, .string e, .string m]) (fun _ => True) := by
  cases ptr <;> try exact Sim.halt
  rename_i a
  cases a
  · refine Sim.never (never_bind (e := choose (.extern "ssa:wrapnilchk.dereferenced" 2)) (calm_of_sim (P2 := Program.mk T F1) (choose_sim _)) fun n => ?_)
    refine never_ite (never_bindL (never_panic _)) ?_
    show Never K _ ((underlying xt).bind _)
    refine never_bind (calm_of_sim (P2 := Program.mk T F1) (underlying_sim _)) fun x => ?_
    cases x <;> try exact never_halt _
    refine never_bind (calm_of_sim (P2 := Program.mk T F1) (typeInfo_sim _)) fun y => ?_
    generalize y.desc = d
    cases d <;> try exact never_halt _
    dsimp only
    split
    · split
      · exact never_panic _
      · exact never_halt _
    · exact never_halt _
  · exact Sim.pure trivial

theorem receiverAt_sim (t : TypeId) (x : Place) (p : Bool) (wr : Option String) : (Sim K (Program.mk T F1) (Program.mk T F2)) (receiverAt t x p wr) (receiverAt t x p wr) (fun _ => True) := by
  unfold receiverAt
  refine Sim.bind (underlying_sim _) fun u _ => ?_
  split
  · exact get_sim _ _
  · refine Sim.bind (get_sim _ _) fun q _ => ?_
    dsimp only
    split
    · exact Sim.bind (wrapNil_sim _ _ _ _) fun _ _ => Sim.bind (asAddr_sim _) fun _ _ => loadVar_sim _ _
    · exact Sim.bind (Sim.pure (Φ := fun _ => True) trivial) fun _ _ => Sim.bind (asAddr_sim _) fun _ _ => loadVar_sim _ _
  · exact Sim.pure trivial
  · exact Sim.halt
  · exact get_sim _ _

theorem receiverVia_sim (t : TypeId) (x : Value) (path : Array FieldStep) (p : Bool) : (Sim K (Program.mk T F1) (Program.mk T F2)) (receiverVia t x path p) (receiverVia t x path p) (fun _ => True) := by
  unfold receiverVia
  exact Sim.bind (follow_sim _ _ _) fun _ _ => receiverAt_sim _ _ _ _

theorem method_sim : ∀ (n : Nat) (t : TypeId) (x : Value) (name : String), (Sim K (Program.mk T F1) (Program.mk T F2)) (method n t x name) (method n t x name) (fun _ => True)
  | 0, _, _, _ => Sim.halt
  | n + 1, t, x, name => by
    have ih := method_sim n
    unfold method
    refine Sim.bind (typeInfo_sim _) fun i _ => ?_
    split
    · refine Sim.bind (follow_sim _ _ _) fun r _ => ?_
      dsimp only
      split
      · refine Sim.bind (get_sim _ _) fun y _ => ?_
        split
        · exact ih _ _ _
        · exact runtimePanic_sim _
        · exact Sim.halt
      · exact Sim.bind (receiverAt_sim _ _ _ _) fun _ _ => Sim.pure trivial
    · exact Sim.halt

theorem callMethod_sim (hF : Shut F1 F2) (x : Value) (name : String) (args : Array Value) : (Sim K (Program.mk T F1) (Program.mk T F2)) (callMethod x name args) (callMethod x name args) (NextOK F1) := by
  unfold callMethod
  split
  · refine Sim.program ?_
    dsimp only [Sem.bind, bind]
    exact Sim.bind (method_sim _ _ _ _) fun r _ => callFunc_sim hF _ _
  · exact runtimePanic_sim _
  · exact Sim.halt

/-- A call of a quiet code's: a function value, or one of a few built-in functions. -/
def quietTarget : Target → Prop
  | .fn _ _ | .nil => True
  | .builtin b _ _ _ => b = .len ∨ b = .append ∨ b = .min ∨ b = .max
  | _ => False

theorem invoke_sim (hF : Shut F1 F2) (t : Target) (ht : quietTarget t) (args : Array Value) : (Sim K (Program.mk T F1) (Program.mk T F2)) (invoke t args) (invoke t args) (NextOK F1) := by
  unfold invoke
  split
  · exact runtimePanic_sim _
  · rename_i b ts ty cs
    rcases ht with rfl | rfl | rfl | rfl
    · exact Sim.bind (len_sim _ _ _) fun _ _ => Sim.pure trivial
    · exact Sim.bind (append_sim _ _ _) fun _ _ => Sim.pure trivial
    · exact Sim.bind (min_sim _ _ _) fun _ _ => Sim.pure trivial
    · exact Sim.bind (max_sim _ _ _) fun _ _ => Sim.pure trivial
  · exact callFunc_sim hF _ _
  · split
    · exact callMethod_sim hF _ _ _
    · exact Sim.halt
  · split
    · refine Sim.bind (underlying_sim _) fun u _ => ?_
      dsimp only
      split <;> exact callMethod_sim hF _ _ _
    · exact Sim.halt
  · split
    · exact Sim.bind (receiverVia_sim _ _ _ _) fun _ _ => callFunc_sim hF _ _
    · exact Sim.halt
  · exact (yield_sim _ _).mono fun r ⟨l, f, tm, a, b, e, h⟩ => by rw [e]; exact h
  · exact ht.elim
  · exact ht.elim

theorem followBlind_sim : ∀ (l : List FieldStep) (t : TypeId) (x : Option Value), (Sim K (Program.mk T F1) (Program.mk T F2)) (followBlind l t x) (followBlind l t x) (fun _ => True)
  | [], _, _ => Sim.pure trivial
  | s :: l, t, x => by
    have ih := followBlind_sim l
    unfold followBlind
    refine Sim.bind (underlying_sim _) fun u _ => ?_
    split
    · split
      · split
        · exact Sim.pure trivial
        · exact ih _ _
        · exact Sim.halt
        · exact Sim.pure trivial
        · exact Sim.bind (part_sim _ _ _) fun _ _ => ih _ _
        · exact Sim.halt
        · exact ih _ _
      · exact Sim.halt
    · exact Sim.halt

theorem nilAhead_sim : ∀ (n : Nat) (t : TypeId) (x : Value) (name : String), (Sim K (Program.mk T F1) (Program.mk T F2)) (nilAhead n t x name) (nilAhead n t x name) (fun _ => True)
  | 0, _, _, _ => Sim.pure trivial
  | n + 1, t, x, name => by
    have ih := nilAhead_sim n
    unfold nilAhead
    refine Sim.bind (typeInfo_sim _) fun i _ => ?_
    split
    · refine Sim.bind (followBlind_sim _ _ _) fun r _ => ?_
      split
      · exact Sim.pure trivial
      · split
        · exact ih _ _ _
        · exact Sim.pure trivial
        · exact Sim.halt
        · exact Sim.pure trivial
        · exact Sim.pure trivial
        · refine Sim.bind (underlying_sim _) fun u _ => ?_
          split <;> exact Sim.pure trivial
    · exact Sim.halt

theorem build_sim (t : TypeId) (parts : Array (Nat × Value)) : (Sim K (Program.mk T F1) (Program.mk T F2)) (Instr.build t parts) (Instr.build t parts) (fun _ => True) := by
  unfold Instr.build
  refine Sim.bind (zeroValue_sim _) fun z _ => ?_
  refine Sim.bind (underlying_sim _) fun u _ => ?_
  split
  · refine Sim.bind (mapM_sim _ (fun f => Sim.bind (sizeOf_sim _) fun _ _ => Sim.pure trivial) _) fun p _ => ?_
    split
    · exact Sim.pure trivial
    · exact Sim.halt
  · refine Sim.bind (sizeOf_sim _) fun n _ => ?_
    split
    · exact Sim.pure trivial
    · exact Sim.halt
  · exact Sim.halt

theorem buildSlice_sim (t : TypeId) (len : Nat) (parts : Array (Nat × Value)) : (Sim K (Program.mk T F1) (Program.mk T F2)) (Instr.buildSlice t len parts) (Instr.buildSlice t len parts) (fun _ => True) := by
  unfold Instr.buildSlice
  refine Sim.bind (underlying_sim _) fun u _ => ?_
  split
  · refine Sim.bind (sizeOf_sim _) fun n _ => ?_
    dsimp only
    refine Sim.ite (fun _ => Sim.halt) (fun _ => ?_)
    refine Sim.ite (fun _ => ?_) (fun _ => ?_)
    · refine Sim.bind (Sim.pure (Φ := fun _ => True) trivial) fun z _ => ?_
      split
      · exact Sim.bind (newRow_sim _ _) fun _ _ => Sim.pure trivial
      · exact Sim.halt
    · refine Sim.bind (zeroValue_sim _) fun z _ => Sim.bind (Sim.pure (Φ := fun _ => True) trivial) fun z _ => ?_
      split
      · exact Sim.bind (newRow_sim _ _) fun _ _ => Sim.pure trivial
      · exact Sim.halt
  · exact Sim.halt

theorem fieldAt_sim (t : TypeId) (x : Value) (i : Nat) : (Sim K (Program.mk T F1) (Program.mk T F2)) (Instr.fieldAt t x i) (Instr.fieldAt t x i) (fun _ => True) := by
  unfold Instr.fieldAt
  refine Sim.bind (underlying_sim _) fun u _ => ?_
  split
  · split
    · exact Sim.bind (sureAddr_sim _) fun _ _ => Sim.bind (fieldPlace_sim _ _) fun _ _ => Sim.pure trivial
    · exact Sim.halt
  · exact Sim.halt

theorem field_sim (t : TypeId) (x : Value) (i : Nat) : (Sim K (Program.mk T F1) (Program.mk T F2)) (Instr.field t x i) (Instr.field t x i) (fun _ => True) := by
  unfold Instr.field
  refine Sim.bind (underlying_sim _) fun u _ => ?_
  split
  · split
    · exact Sim.bind (asAgg_sim _) fun _ _ => part_sim _ _ _
    · exact Sim.halt
  · exact Sim.halt

theorem indexAt_sim (t : TypeId) (x i : Value) : (Sim K (Program.mk T F1) (Program.mk T F2)) (Instr.indexAt t x i) (Instr.indexAt t x i) (fun _ => True) := by
  unfold Instr.indexAt
  refine Sim.bind (asIntOf_sim _) fun ki _ => ?_
  obtain ⟨k, i⟩ := ki
  dsimp only
  refine Sim.bind (underlying_sim _) fun u _ => ?_
  split
  · refine Sim.bind (sureAddr_sim _) fun a _ => Sim.bind (Sim.pure (Φ := fun _ => True) trivial) fun r _ => ?_
    obtain ⟨b, l, e⟩ := r
    dsimp only
    refine Sim.bind (underlying_sim _) fun u _ => ?_
    split
    · exact Sim.ite (fun _ => Sim.bind (sizeOf_sim _) fun _ _ => Sim.pure trivial) (fun _ => Sim.ite (fun _ => Sim.halt) (fun _ => boundsPanic_sim _ _ _ _))
    · exact boundsPanic_sim _ _ _ _
  · refine Sim.bind (Sim.pure (Φ := fun _ => True) trivial) fun r _ => ?_
    obtain ⟨b, l, e⟩ := r
    dsimp only
    refine Sim.bind (underlying_sim _) fun u _ => ?_
    split
    · exact Sim.ite (fun _ => Sim.bind (sizeOf_sim _) fun _ _ => Sim.pure trivial) (fun _ => Sim.ite (fun _ => Sim.halt) (fun _ => boundsPanic_sim _ _ _ _))
    · exact boundsPanic_sim _ _ _ _
  · exact Sim.halt

theorem storeVar_sim (t : TypeId) (a : Addr) (x : Value) : (Sim K (Program.mk T F1) (Program.mk T F2)) (storeVar t a x) (storeVar t a x) (fun _ => True) := by
  unfold storeVar
  refine Sim.bind (sizeOf_sim _) fun n _ => ?_
  dsimp only
  exact Sim.ite (fun _ => Sim.halt) (fun _ => storeCells_sim _ _ _)

theorem extract_sim (x : Value) (i : Nat) : (Sim K (Program.mk T F1) (Program.mk T F2)) (Instr.extract x i) (Instr.extract x i) (fun _ => True) := by
  unfold Instr.extract
  split
  · split
    · exact Sim.pure trivial
    · exact Sim.halt
  · exact Sim.halt

theorem ofValue_sim (f : Value) (args : Array Value) : (Sim K (Program.mk T F1) (Program.mk T F2)) (Deferred.ofValue f args) (Deferred.ofValue f args) (fun d => quietTarget d.target) := by
  unfold Deferred.ofValue
  split
  · exact Sim.pure trivial
  · exact Sim.pure trivial
  · exact Sim.halt

/-- ONE OPERATION OF A QUIET CODE. -/
theorem execOp_sim [FlatEqs T] (hF : Shut F1 F2) (ρ : Operand → Value) (o : Oper) (ho : tameOp o = true) : (Sim K (Program.mk T F1) (Program.mk T F2)) (execOp ρ o) (execOp ρ o) (NextOK F1) := by
  obtain ⟨dst, op, ty, pos, aft, g⟩ := o
  unfold execOp
  unfold tameOp at ho
  cases op <;> dsimp only at ho ⊢ <;> first | (exact absurd ho (by decide)) | skip
  case move => exact Sim.pure trivial
  case assign => exact Sim.pure trivial
  case pick => exact Sim.bind (asBool_sim _) fun _ _ => Sim.pure trivial
  case alloc =>
    refine Sim.bind (Ψ := fun _ => True) ?_ fun _ _ => Sim.pure trivial
    unfold Instr.alloc
    refine Sim.bind (zeroValue_sim _) fun z _ => ?_
    exact Sim.bind (newVar_sim _ _) fun _ _ => Sim.pure trivial
  case box => exact Sim.bind (Sim.bind (newVar_sim _ _) fun _ _ => Sim.pure (Φ := fun _ => True) trivial) fun _ _ => Sim.pure trivial
  case build => exact Sim.bind (build_sim _ _) fun _ _ => Sim.pure trivial
  case buildSlice => exact Sim.bind (buildSlice_sim _ _ _) fun _ _ => Sim.pure trivial
  case load => exact Sim.bind (Sim.bind (sureAddr_sim _) fun _ _ => loadVar_sim _ _) fun _ _ => Sim.pure trivial
  case store => exact Sim.bind (Sim.bind (sureAddr_sim _) fun _ _ => storeVar_sim _ _ _) fun _ _ => Sim.pure trivial
  case nilCheck x =>
    split
    · exact runtimePanic_sim _
    · exact runtimePanic_sim _
    · exact runtimePanic_sim _
    · split
      · exact runtimePanic_sim _
      · refine Sim.program ?_
        dsimp only [Sem.bind, bind]
        refine Sim.bind (nilAhead_sim _ _ _ _) fun r _ => ?_
        exact Sim.ite (fun _ => Sim.halt) (fun _ => Sim.pure trivial)
      · exact Sim.pure trivial
    · exact Sim.pure trivial
  case binOp op t x y yt =>
    have hq : quietOp op := by
      cases op <;> simp at ho <;> simp [quietOp]
    have hf : op = .eql ∨ op = .neq → flatT T Op.maxDepth t = true := by
      rintro (rfl | rfl) <;> exact FlatEqs.flat _ ho
    exact Sim.bind (Sim.bind (eqGuard_sim _ _ _ _ _ _) fun _ _ => binOp_sim _ hq _ hf _ _) fun _ _ => Sim.pure trivial
  case unOp => exact Sim.bind (unary_sim _ _) fun _ _ => Sim.pure trivial
  case makeFunc => exact Sim.bind (Sim.pure (Φ := fun _ => True) trivial) fun _ _ => Sim.pure trivial
  case fieldAddr => exact Sim.bind (fieldAt_sim _ _ _) fun _ _ => Sim.pure trivial
  case field => exact Sim.bind (field_sim _ _ _) fun _ _ => Sim.pure trivial
  case indexAddr => exact Sim.bind (indexAt_sim _ _ _) fun _ _ => Sim.pure trivial
  case extract => exact Sim.bind (extract_sim _ _) fun _ _ => Sim.pure trivial
  case call c =>
    refine Sim.bind (Ψ := fun d => quietTarget d.target) ?_ fun d hd => invoke_sim hF _ hd _
    unfold resolve
    obtain ⟨cal, args, ats⟩ := c
    cases cal with
    | builtin b =>
      dsimp only at ho ⊢
      refine Sim.pure ?_
      cases b <;> simp at ho <;> simp [quietTarget]
    | value f => exact ofValue_sim _ _
    | invoke r n => cases ho
end
end Go.Proofs.Ytpolipcicfjkiaa.Cy
/- How one step of a quiet goroutine fares in a view and in truth, whoever called it. Conditions: none. -/
namespace Go.Proofs.Ytpolipcicfjkiaa.Cy
open Go Go.Conc


def tameItem : Item → Bool
  | .code c | .inLoop c => tameCode c
  | .inBlock _ | .inRangeFunc _ | .endRangeFunc _ | .beginRound => true
  | .inRegion ops _ => ops.toList.all tameOp
  | _ => false

/-- A frame of a quiet goroutine's. -/
structure TF (fr : Frame) : Prop where
  kind : fr.kind ≠ .early
  todo : ∀ it ∈ fr.todo, tameItem it = true

/-- .. that may return to whoever called it. -/
structure TR (F1 F2 : Array Func) (fr : Frame) : Prop where
  kind : fr.kind = .normal
  defers : ∀ d ∈ fr.defers, ∃ b, d.target = .collected b
  fn : fr.roundOf = none → ∃ x y, F1[fr.fn]? = some x ∧ F2[fr.fn]? = some y ∧ y.results = x.results

/-- A deferred call that nobody can make. -/
def Dead (F1 : Array Func) (d : Deferred) : Prop := ∃ f c x, d.target = .fn (.func f) c ∧ F1[f]? = some x ∧ ShutFn x

/-- The lowest frame, where it is not left here: behind what its loops have laid lies a deferred call that nobody can make. -/
structure TB (F1 : Array Func) (fr : Frame) : Prop where
  round : fr.roundOf = none
  defers : ∃ pre d, fr.defers = pre ++ [d] ∧ Dead F1 d ∧ ∀ x ∈ pre, ∃ b, x.target = .collected b

/-- All frames may return, but for the lowest if B. -/
def Rets (F1 F2 : Array Func) (B : Bool) : List Frame → Prop
  | [] => True
  | [f] => match B with | true => TB F1 f | false => TR F1 F2 f
  | f :: g :: l => TR F1 F2 f ∧ Rets F1 F2 B (g :: l)

/-- B: the lowest frame is not left here. -/
structure Tame (F1 F2 : Array Func) (B : Bool) (fr : Frame) (fs : List Frame) : Prop where
  top : TF fr
  mode : fr.mode = .run ∨ (fr.mode = .returning ∧ fr.roundOf = none)
  rest : ∀ f ∈ fs, TF f ∧ f.mode = .run
  ret : Rets F1 F2 B (fr :: fs)

structure Shut' (F1 F2 : Array Func) : Prop extends Shut F1 F2 where
  norace : ∀ f : Nat, (F1[f]?).any (·.norace) = (F2[f]?).any (·.norace)

/-- What a step is, over whatever lies below. -/
abbrev StepF := Bool → List Frame → World → GStep

def Lock (K : Nat → Prop) (S1 S2 : StepF) (v : World) (fr' : Frame) (fs' : List Frame) (v' : World) (es : Array Event) : Prop :=
  (∀ main base, S1 main base v = .go (G fr' (fs' ++ base)) v' es) ∧ Tidy v' ∧ Grow v v' ∧ v.drawn ≤ v'.drawn ∧ v'.tape = v.tape ∧ (∀ e ∈ es, EvOK K v' e) ∧
  ∀ w, Rel K v w → Agree v v' w → ∃ w', (∀ main base, S2 main base w = .go (G fr' (fs' ++ base)) w' es) ∧ Rel K v' w' ∧ Drew K v v' w w'

/-- A frame that is given up. -/
structure Lost (F1 : Array Func) (fr : Frame) : Prop where
  mode : ∃ ch, fr.mode = .panicking ch
  defers : ∀ d ∈ fr.defers, (∃ b, d.target = .collected b) ∨ Dead F1 d

/-- WHAT A STEP OF A QUIET GOROUTINE CAN BE: one in lock-step · the end · a panic · a return to whoever called. -/
def Step4 (K : Nat → Prop) (F1 F2 : Array Func) (B : Bool) (S1 S2 : StepF) (fs : List Frame) (v : World) : Prop :=
  (∃ fr' fs' v' es, Tame F1 F2 B fr' fs' ∧ Lock K S1 S2 v fr' fs' v' es) ∨
  (∀ main base, ∃ o v' es, S1 main base v = .ended o v' es) ∨
  (∃ fr' v' es, Tidy v' ∧ Lost F1 fr' ∧ ∀ main base, S1 main base v = .go (G fr' (fs ++ base)) v' es) ∨
  (fs = [] ∧ B = false ∧ ∃ x v' es, ∀ main c base, S1 main (c :: base) v = .go (G (c.finish x) base) v' es)

def stepF (P : Program) (fr : Frame) (fs : List Frame) : StepF := fun main base v => stepG P main (G fr (fs ++ base)) v

section
variable {T : Tables} {F1 F2 : Array Func} {K : Nat → Prop}

theorem seen_mem (P : Program) (fn : FuncId) (es : Array Event) {e : Event} (h : e ∈ seen P fn es) : e ∈ es := by
  unfold seen at h
  dsimp only at h
  rw [← Array.foldl_toList] at h
  have key : ∀ (l : List Event) (acc : Bool × Array Event), (∀ x ∈ acc.2, x ∈ es) → (∀ x ∈ l, x ∈ es) →
      ∀ x ∈ (l.foldl (fun (x : Bool × Array Event) e => match e.loc with
        | .mark (.extern f) => ((P.funcs[f]?).any (·.norace), x.2)
        | _ => (x.1, if (x.1 && !e.sync) = true then x.2 else x.2.push e)) acc).2, x ∈ es := by
    intro l
    induction l with
    | nil => intro acc h1 _ x hx; exact h1 x hx
    | cons y l ih =>
      intro acc h1 h2
      simp only [List.foldl_cons]
      refine ih _ ?_ (fun x hx => h2 x (List.mem_cons_of_mem _ hx))
      split
      · exact h1
      · intro x hx
        dsimp only at hx
        split at hx
        · exact h1 x hx
        · rcases Array.mem_push.1 hx with hx | rfl
          · exact h1 x hx
          · exact h2 _ (List.mem_cons_self ..)
  exact key es.toList _ (by simp) (fun x hx => by simpa using hx) e h

theorem seen_eq (hF : Shut' F1 F2) (fn : FuncId) (es : Array Event) : seen (Program.mk T F2) fn es = seen (Program.mk T F1) fn es := by
  unfold seen
  dsimp only
  have h : ∀ f : Nat, ((Program.mk T F2).funcs[f]?).any (·.norace) = ((Program.mk T F1).funcs[f]?).any (·.norace) := fun f => (hF.norace f).symm
  simp only [h]

theorem TF.finish {fr : Frame} (h : TF fr) (x : Value) : TF (fr.finish x) := by
  obtain ⟨h1, h3⟩ := h
  unfold Frame.finish
  split
  · rename_i ops i rest k ht
    refine ⟨h1, fun it hit => ?_⟩
    rw [ht] at h3
    rcases List.mem_cons.1 hit with rfl | hit
    · have := h3 (.inRegion ops (i :: rest)) (List.mem_cons_self ..)
      exact this
    · exact h3 _ (List.mem_cons_of_mem _ hit)
  · rename_i l k ht
    refine ⟨h1, fun it hit => ?_⟩
    rw [ht] at h3
    rcases List.mem_cons.1 hit with rfl | hit
    · rfl
    · exact h3 _ (List.mem_cons_of_mem _ hit)
  · rename_i k ht
    refine ⟨h1, fun it hit => ?_⟩
    rw [ht] at h3
    exact h3 _ (List.mem_cons_of_mem _ hit)
  · rename_i ht
    rw [ht] at h3
    exact absurd (h3 _ (List.mem_cons_self ..)) (by simp [tameItem])
  · rename_i ht
    rw [ht] at h3
    exact absurd (h3 _ (List.mem_cons_self ..)) (by simp [tameItem])
  · exact ⟨h1, h3⟩

theorem finish_same (fr : Frame) (x : Value) : (fr.finish x).mode = fr.mode ∧ (fr.finish x).roundOf = fr.roundOf ∧ (fr.finish x).kind = fr.kind ∧ (fr.finish x).defers = fr.defers ∧ (fr.finish x).fn = fr.fn := by
  unfold Frame.finish; split <;> exact ⟨rfl, rfl, rfl, rfl, rfl⟩

theorem TR.finish {fr : Frame} (h : TR F1 F2 fr) (x : Value) : TR F1 F2 (fr.finish x) := by
  obtain ⟨_, e2, e3, e4, e5⟩ := finish_same fr x
  exact ⟨e3.trans h.kind, by rw [e4]; exact h.defers, by rw [e2, e5]; exact h.fn⟩

theorem TB.finish {fr : Frame} (h : TB F1 fr) (x : Value) : TB F1 (fr.finish x) := by
  obtain ⟨_, e2, _, e4, _⟩ := finish_same fr x
  exact ⟨e2.trans h.round, by rw [e4]; exact h.defers⟩

theorem Rets.top {B : Bool} {fr : Frame} {fs : List Frame} (h : Rets F1 F2 B (fr :: fs)) (hb : B = true → fs ≠ []) : TR F1 F2 fr := by
  cases fs with
  | nil => cases B with
    | true => exact absurd rfl (hb rfl)
    | false => exact h
  | cons c l => exact h.1

theorem Rets.swap {B : Bool} {fr fr' : Frame} {fs : List Frame} (h : Rets F1 F2 B (fr :: fs)) (k : TR F1 F2 fr → TR F1 F2 fr') (k2 : TB F1 fr → TB F1 fr') : Rets F1 F2 B (fr' :: fs) := by
  cases fs with
  | nil => cases B with
    | true => exact k2 h
    | false => exact k h
  | cons c l => exact ⟨k h.1, h.2⟩

theorem Rets.same {B : Bool} {fr fr' : Frame} {fs : List Frame} (h : Rets F1 F2 B (fr :: fs)) (e1 : fr'.kind = fr.kind) (e2 : fr'.defers = fr.defers) (e3 : fr'.roundOf = fr.roundOf) (e4 : fr'.fn = fr.fn) : Rets F1 F2 B (fr' :: fs) :=
  h.swap (fun x => ⟨e1.trans x.kind, by rw [e2]; exact x.defers, by rw [e3, e4]; exact x.fn⟩) (fun x => ⟨e3.trans x.round, by rw [e2]; exact x.defers⟩)

theorem Rets.pop {B : Bool} {fr c : Frame} {fs : List Frame} (h : Rets F1 F2 B (fr :: c :: fs)) : Rets F1 F2 B (c :: fs) := h.2

theorem Rets.lost {B : Bool} {fr : Frame} {fs : List Frame} (h : Rets F1 F2 B (fr :: fs)) : ∀ d ∈ fr.defers, (∃ b, d.target = .collected b) ∨ Dead F1 d := by
  have tr : TR F1 F2 fr → ∀ d ∈ fr.defers, (∃ b, d.target = .collected b) ∨ Dead F1 d := fun x d hd => .inl (x.defers d hd)
  cases fs with
  | nil => cases B with
    | true =>
      obtain ⟨pre, d, e, hd, hp⟩ := TB.defers h
      intro x hx
      rw [e] at hx
      rcases List.mem_append.1 hx with hx | hx
      · exact .inl (hp x hx)
      · rw [List.mem_singleton] at hx; exact .inr (hx ▸ hd)
    | false => exact tr h
  | cons c l => exact tr h.1

theorem Rets.lostAll {B : Bool} : ∀ {fr : Frame} {fs : List Frame}, Rets F1 F2 B (fr :: fs) → ∀ f ∈ fs, ∀ d ∈ f.defers, (∃ b, d.target = .collected b) ∨ Dead F1 d
  | _, [], _ => by simp
  | _, c :: l, h => fun f hf => by
    rcases List.mem_cons.1 hf with rfl | hf
    · exact h.2.lost
    · exact Rets.lostAll h.2 f hf

/-- A step of control: nothing is looked at. -/
theorem step_ctl {B : Bool} {fr' : Frame} {fs fs' : List Frame} {v : World} {S : Array Func → StepF} (hv : Fair K v) (ht : Tame F1 F2 B fr' fs')
    (h : ∀ (F : Array Func) (w : World) main base, S F main base w = .go (G fr' (fs' ++ base)) w #[]) : Step4 K F1 F2 B (S F1) (S F2) fs v :=
  .inl ⟨fr', fs', v, #[], ht, fun main base => h F1 v main base, hv.1, Grow.refl _, Nat.le_refl _, rfl, by simp, fun w hr _ => ⟨w, fun main base => h F2 w main base, hr, Drew.refl _ _ _⟩⟩

theorem TF.to {fr : Frame} (h : TF fr) {todo : List Item} (ht : ∀ it ∈ todo, tameItem it = true) : TF { fr with todo } := ⟨h.kind, ht⟩

theorem Tame.to {B : Bool} {fr : Frame} {fs : List Frame} (h : Tame F1 F2 B fr fs) {todo : List Item} (ht : ∀ it ∈ todo, tameItem it = true) : Tame F1 F2 B { fr with todo } fs := ⟨h.top.to ht, h.mode, h.rest, h.ret.same rfl rfl rfl rfl⟩

theorem Tame.finish {B : Bool} {fr : Frame} {fs : List Frame} (h : Tame F1 F2 B fr fs) (x : Value) : Tame F1 F2 B (fr.finish x) fs := by
  obtain ⟨e1, e2, _⟩ := finish_same fr x
  exact ⟨h.top.finish x, by rw [e1, e2]; exact h.mode, h.rest, h.ret.swap (fun t => t.finish x) (fun t => t.finish x)⟩

/-- Back to the caller. -/
theorem Tame.back {B : Bool} {fr c : Frame} {fs : List Frame} (h : Tame F1 F2 B fr (c :: fs)) (x : Value) : Tame F1 F2 B (c.finish x) fs := by
  obtain ⟨h1, h2⟩ := h.rest c (List.mem_cons_self ..)
  exact ⟨h1.finish x, by rw [(finish_same c x).1]; exact .inl h2, fun f hf => h.rest f (List.mem_cons_of_mem _ hf), h.ret.pop.swap (fun t => t.finish x) (fun t => t.finish x)⟩

theorem exitTo_tame {id : Nat} : ∀ {k k' : List Item}, exitTo id k = some k' → (∀ it ∈ k, tameItem it = true) → ∀ it ∈ k', tameItem it = true
  | [], _, h, _ => by simp [exitTo] at h
  | x :: k, k', h, ht => by
    have ih := fun h => exitTo_tame (id := id) (k := k) (k' := k') h (fun it hit => ht it (List.mem_cons_of_mem _ hit))
    cases x <;> simp only [exitTo] at h <;> first
      | exact ih h
      | (split at h
         · cases h; exact fun it hit => ht it (List.mem_cons_of_mem _ hit)
         · exact ih h)

/-- A step that asks something of the world and goes on with the answer. -/
theorem step_sem (hF : Shut' F1 F2) {α : Type} {e : Sem α} {Φ : α → Prop} (he : Sim K (Program.mk T F1) (Program.mk T F2) e e Φ) {B : Bool} {fn : FuncId} {fs : List Frame} {v : World} {S : Array Func → StepF} (hv : Fair K v)
    (C : α → Frame × List Frame) (hC : ∀ r, Φ r → Tame F1 F2 B (C r).1 (C r).2)
    (hok : ∀ (F : Array Func) (w : World) main base r w' es, (F = F1 ∨ F = F2) → Φ r → e.runT (Program.mk T F) w #[] = (.ok r w', es) →
      S F main base w = .go (G (C r).1 ((C r).2 ++ base)) w' (seen (Program.mk T F) fn es))
    (hpanic : ∀ x v' es, Tidy v' → e.runT (Program.mk T F1) v #[] = (.halt (.panic x) v', es) → (∀ main base, ∃ o v' es, S F1 main base v = .ended o v' es) ∨
      ∃ fr' v' es, Tidy v' ∧ Lost F1 fr' ∧ ∀ main base, S F1 main base v = .go (G fr' (fs ++ base)) v' es)
    (hhalt : ∀ h v' es, PlainHalt h → (∀ x, h ≠ .panic x) → e.runT (Program.mk T F1) v #[] = (.halt h v', es) → ∀ main base, ∃ o v' es, S F1 main base v = .ended o v' es) : Step4 K F1 F2 B (S F1) (S F2) fs v := by
  rcases hr : e.runT (Program.mk T F1) v #[] with ⟨r, es⟩
  cases r with
  | ok r v' =>
    obtain ⟨w0, hr0⟩ := hv.2
    obtain ⟨_, _, _, t', g', d', ev, φ⟩ := he.ok v { w0 with tape := v.tape, drawn := v.drawn } (hr0.tape _ _) hv.1 r v' es hr (fun _ _ _ => rfl)
    refine .inl ⟨(C r).1, (C r).2, v', seen (Program.mk T F1) fn es, hC r φ, fun main base => hok F1 v main base r v' es (.inl rfl) φ hr, t', g', d'.le, d'.tape, fun x hx => ev x (seen_mem _ _ _ hx), fun w hw ha => ?_⟩
    obtain ⟨w', hw', r', _, _, dd, _, _⟩ := he.ok v w hw hv.1 r v' es hr ha
    exact ⟨w', fun main base => by rw [hok F2 w main base r w' es (.inr rfl) φ hw', seen_eq hF], r', dd⟩
  | halt h v' =>
    have hp := he.halts v hv h v' es hr
    by_cases hx : ∃ x, h = .panic x
    · obtain ⟨x, rfl⟩ := hx
      rcases hpanic x v' es hp.2 hr with h | h
      · exact .inr (.inl h)
      · exact .inr (.inr (.inl h))
    · exact .inr (.inl (hhalt h v' es hp.1 (fun x e => hx ⟨x, e⟩) hr))
end
end Go.Proofs.Ytpolipcicfjkiaa.Cy
