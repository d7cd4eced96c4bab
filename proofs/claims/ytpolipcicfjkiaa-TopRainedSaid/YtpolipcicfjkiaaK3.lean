/- How each operation of a quiet code fares in a view and in truth. Conditions: none. -/
import Derived.Test.YtpolipcicfjkiaaK2
import Derived.Laws.Sem
namespace Go.Proofs.Ytpolipcicfjkiaa.Cy
open Go

section
variable {T : Tables} {F1 F2 : Array Func} {K : Nat → Prop}

theorem underlying_sim (t : TypeId) : (Sim K (Program.mk T F1) (Program.mk T F2)) (underlying t) (underlying t) (fun _ => True) := by
  refine Sim.program ?_
  show (Sim K (Program.mk T F1) (Program.mk T F2)) (match (Program.mk T F1).underlying t with | some d => Sem.pure d | none => stuck "no such type") (match (Program.mk T F1).underlying t with | some d => Sem.pure d | none => stuck "no such type") _
  split
  · exact Sim.pure trivial
  · exact Sim.halt

theorem typeInfo_sim (t : TypeId) : (Sim K (Program.mk T F1) (Program.mk T F2)) (typeInfo t) (typeInfo t) (fun _ => True) := by
  refine Sim.program ?_
  show (Sim K (Program.mk T F1) (Program.mk T F2)) (match (Program.mk T F1).info? t with | some d => Sem.pure d | none => stuck "no such type") (match (Program.mk T F1).info? t with | some d => Sem.pure d | none => stuck "no such type") _
  split
  · exact Sim.pure trivial
  · exact Sim.halt

theorem sizeOf_sim (t : TypeId) : (Sim K (Program.mk T F1) (Program.mk T F2)) (sizeOf t) (sizeOf t) (fun _ => True) := Sim.bind (typeInfo_sim t) fun _ _ => Sim.pure trivial
theorem isAgg_sim (t : TypeId) : (Sim K (Program.mk T F1) (Program.mk T F2)) (isAgg t) (isAgg t) (fun _ => True) := by
  refine Sim.bind (underlying_sim t) fun _ _ => ?_
  split <;> exact Sim.pure trivial
theorem zeroValue_sim (t : TypeId) : (Sim K (Program.mk T F1) (Program.mk T F2)) (zeroValue t) (zeroValue t) (fun _ => True) := by
  refine Sim.bind (typeInfo_sim t) fun _ _ => ?_
  split
  · exact Sim.pure trivial
  · exact Sim.halt
theorem asIntOf_sim (x : Value) : (Sim K (Program.mk T F1) (Program.mk T F2)) (asIntOf x) (asIntOf x) (fun _ => True) := by
  unfold asIntOf; split <;> first | exact Sim.pure trivial | exact Sim.halt
theorem asInt_sim (x : Value) : (Sim K (Program.mk T F1) (Program.mk T F2)) (asInt x) (asInt x) (fun _ => True) := Sim.bind (asIntOf_sim x) fun _ _ => Sim.pure trivial
theorem asBool_sim (x : Value) : (Sim K (Program.mk T F1) (Program.mk T F2)) (asBool x) (asBool x) (fun _ => True) := by
  unfold asBool; split <;> first | exact Sim.pure trivial | exact Sim.halt
theorem asAgg_sim (x : Value) : (Sim K (Program.mk T F1) (Program.mk T F2)) (asAgg x) (asAgg x) (fun _ => True) := by
  unfold asAgg; split <;> first | exact Sim.pure trivial | exact Sim.halt
theorem sureAddr_sim (x : Value) : (Sim K (Program.mk T F1) (Program.mk T F2)) (Instr.sureAddr x) (Instr.sureAddr x) (fun _ => True) := by
  unfold Instr.sureAddr; split <;> first | exact Sim.pure trivial | exact Sim.halt
theorem choose_sim (q : Question) : (Sim K (Program.mk T F1) (Program.mk T F2)) (choose q) (choose q) (fun _ => True) := Sim.choose fun _ => Sim.pure trivial
theorem newRow_sim (e : TypeId) (cs : Array Value) : (Sim K (Program.mk T F1) (Program.mk T F2)) (newRow e cs) (newRow e cs) (fun _ => True) :=
  Sim.bind (Sim.new (o := .cells cs e) trivial fun _ _ => Sim.pure trivial) fun _ _ => Sim.pure trivial
theorem newVar_sim (e : TypeId) (x : Value) : (Sim K (Program.mk T F1) (Program.mk T F2)) (newVar e x) (newVar e x) (fun _ => True) := newRow_sim e _

theorem goPanic_sim {α : Type} (x : Value) {e2 : Sem α} {Φ : α → Prop} : (Sim K (Program.mk T F1) (Program.mk T F2)) (goPanic x) e2 Φ := Sim.halt

/-- A piece that never yields a value, and halts plainly. -/
def Never (K : Nat → Prop) (P : Program) {α : Type} (e : Sem α) : Prop := ∀ v, Fair K v → ∃ h v' es, e.runT P v #[] = (.halt h v', es) ∧ HaltOK h v'
/-- A piece that keeps a view fair, or halts plainly. -/
def Calm (K : Nat → Prop) (P : Program) {α : Type} (e : Sem α) : Prop := ∀ v, Fair K v → (∃ r v' es, e.runT P v #[] = (.ok r v', es) ∧ Fair K v') ∨ (∃ h v' es, e.runT P v #[] = (.halt h v', es) ∧ HaltOK h v')
theorem calm_of_sim {P1 P2 : Program} {α : Type} {e e2 : Sem α} {Φ : α → Prop} (h : Sim K P1 P2 e e2 Φ) : Calm K P1 e := by
  intro v ht
  rcases hr : e.runT P1 v #[] with ⟨r, es⟩
  cases r with
  | ok a v' => exact .inl ⟨a, v', es, rfl, (h.fair ht hr).1⟩
  | halt x v' => exact .inr ⟨x, v', es, rfl, h.halts v ht x v' es hr⟩
theorem calm_program {P : Program} : Calm K P program := fun v ht => .inl ⟨P, v, #[], rfl, ht⟩
theorem calm_mark {P : Program} (m : Mark) : Calm K P (mark m) := fun v ht => .inl ⟨(), v, #[⟨.mark m, false, true⟩], rfl, ht⟩
theorem calm_bind {P : Program} {α β : Type} {e : Sem α} {f : α → Sem β} (h : Calm K P e) (k : ∀ a, Calm K P (f a)) : Calm K P (e.bind f) := by
  intro v ht
  rw [runT_bind]
  rcases h v ht with ⟨r, v', es, he, ht'⟩ | ⟨x, v', es, he, hp⟩
  · rw [he]
    dsimp only
    rw [runT_pre]
    rcases k r v' ht' with ⟨r2, v2, es2, he2, ht2⟩ | ⟨x2, v2, es2, he2, hp2⟩
    · rw [he2]; exact .inl ⟨_, _, _, rfl, ht2⟩
    · rw [he2]; exact .inr ⟨_, _, _, rfl, hp2⟩
  · rw [he]; exact .inr ⟨_, _, _, rfl, hp⟩
theorem calm_pure {P : Program} {α : Type} (a : α) : Calm K P (Sem.pure a) := fun v ht => .inl ⟨a, v, #[], rfl, ht⟩
theorem calm_shape {P : Program} (b : Nat) : Calm K P (shape b) := fun v ht => .inl ⟨v.shape? b, v, #[], rfl, ht⟩
theorem calm_frozen {P : Program} (a : Addr) : Calm K P (Go.frozen a) := fun v ht => .inl ⟨v.frozen? a, v, #[], rfl, ht⟩
theorem never_halt {P : Program} {α : Type} (h : Halt) (hp : PlainHalt h := by trivial) : Never K P (.halt h : Sem α) := fun v hv => ⟨h, v, #[], rfl, hp, hv.1⟩
theorem never_bind {P : Program} {α β : Type} {e : Sem α} (he : Calm K P e) {f : α → Sem β} (h : ∀ a, Never K P (f a)) : Never K P (e.bind f) := by
  intro v ht
  rw [runT_bind]
  rcases he v ht with ⟨r, v', es, he, ht'⟩ | ⟨x, v', es, he, hp⟩
  · rw [he]
    dsimp only
    rw [runT_pre]
    obtain ⟨x2, v2, es2, he2, hp2⟩ := h r v' ht'
    rw [he2]; exact ⟨_, _, _, rfl, hp2⟩
  · rw [he]; exact ⟨_, _, _, rfl, hp⟩
theorem never_ite {P : Program} {α : Type} {c : Prop} [Decidable c] {a b : Sem α} (h : Never K P a) (k : Never K P b) : Never K P (if c then a else b) := by
  split
  · exact h
  · exact k
theorem never_bindL {P : Program} {α β : Type} {e : Sem α} (h : Never K P e) {f : α → Sem β} : Never K P (e.bind f) := by
  intro v ht
  rw [runT_bind]
  obtain ⟨x, v', es, he, hp⟩ := h v ht
  rw [he]; exact ⟨_, _, _, rfl, hp⟩
theorem Sim.never {P1 P2 : Program} {α : Type} {e1 e2 : Sem α} {Φ : α → Prop} (h : Never K P1 e1) : Sim K P1 P2 e1 e2 Φ := by
  refine ⟨fun v w hr ht r v' es he _ => ?_, fun v ht x v' es he => ?_⟩
  · obtain ⟨x, v2, es2, he2, _⟩ := h v ⟨ht, w, hr⟩
    rw [he2] at he; cases he
  · obtain ⟨x2, v2, es2, he2, hp⟩ := h v ht
    rw [he2] at he; cases he; exact hp

theorem elemOf_calm (t : TypeId) : Calm K (Program.mk T F1) (elemOf t) := by
  refine calm_bind (calm_of_sim (P2 := Program.mk T F1) (underlying_sim t)) fun u => ?_
  cases u <;> first | exact calm_pure _ | exact fun v hv => .inr ⟨_, v, #[], rfl, trivial, hv.1⟩

/-- A panic of the runtime's own never yields a value. -/
theorem never_panic {α : Type} (e : RuntimeError) : Never K (Program.mk T F1) (runtimePanic e : Sem α) := by
  unfold runtimePanic
  refine never_bind calm_program fun p => ?_
  have nv : ∀ t x, Calm K (Program.mk T F1) (newVar t x) := fun t x => calm_of_sim (P2 := Program.mk T F1) (newVar_sim t x)
  cases e <;> first
    | exact never_halt _
    | exact never_bind (elemOf_calm _) fun _ => never_bind (nv _ _) fun _ => never_halt _

theorem runtimePanic_sim {α : Type} (e : RuntimeError) {e2 : Sem α} {Φ : α → Prop} : (Sim K (Program.mk T F1) (Program.mk T F2)) (runtimePanic e) e2 Φ := Sim.never (never_panic e)

theorem boundsPanic_sim {α : Type} (k : IntKind) (x y : Int) (c : BoundsCode) {Φ : α → Prop} : (Sim K (Program.mk T F1) (Program.mk T F2)) (boundsPanic k x y c) (boundsPanic k x y c) Φ := by
  unfold boundsPanic
  dsimp only
  split
  · exact Sim.bind (Ψ := fun _ => True) (Sim.bind (choose_sim _) fun _ _ => Sim.pure trivial) fun _ _ => runtimePanic_sim _
  · exact Sim.bind (Ψ := fun _ => True) (Sim.pure trivial) fun _ _ => runtimePanic_sim _

theorem asAddr_sim (x : Value) : (Sim K (Program.mk T F1) (Program.mk T F2)) (asAddr x) (asAddr x) (fun _ => True) := by
  unfold asAddr; split <;> first | exact Sim.pure trivial | exact runtimePanic_sim _ | exact Sim.halt

theorem loadCellsFrom_sim (a : Addr) : ∀ (n i : Nat) (acc : Array Value), (Sim K (Program.mk T F1) (Program.mk T F2)) (loadCellsFrom a i n acc) (loadCellsFrom a i n acc) (fun _ => True)
  | 0, _, _ => Sim.pure trivial
  | n + 1, i, _acc => Sim.bind (Sim.load fun _ => Sim.pure (Φ := fun _ => True) trivial) fun _ _ => loadCellsFrom_sim a n (i + 1) _
theorem loadCells_sim (a : Addr) (n : Nat) : (Sim K (Program.mk T F1) (Program.mk T F2)) (loadCells a n) (loadCells a n) (fun _ => True) := loadCellsFrom_sim a n 0 _

theorem storeCells_sim (a : Addr) : ∀ (vs : List Value) (i : Nat), (Sim K (Program.mk T F1) (Program.mk T F2)) (storeCells a vs i) (storeCells a vs i) (fun _ => True)
  | [], _ => Sim.pure trivial
  | _x :: vs, i => Sim.bind (Sim.store (Sim.pure (Φ := fun _ => True) trivial)) fun _ _ => storeCells_sim a vs (i + 1)

theorem loadVar_sim (t : TypeId) (a : Addr) : (Sim K (Program.mk T F1) (Program.mk T F2)) (loadVar t a) (loadVar t a) (fun _ => True) := by
  refine Sim.bind (isAgg_sim t) fun b _ => ?_
  split
  · exact Sim.bind (sizeOf_sim t) fun _ _ => Sim.bind (loadCells_sim _ _) fun _ _ => Sim.pure trivial
  · exact Sim.load fun _ => Sim.pure trivial

theorem part_sim (t : TypeId) (cs : Array Value) (off : Nat) : (Sim K (Program.mk T F1) (Program.mk T F2)) (part t cs off) (part t cs off) (fun _ => True) := by
  refine Sim.bind (isAgg_sim t) fun b _ => ?_
  split
  · exact Sim.bind (sizeOf_sim t) fun _ _ => Sim.pure trivial
  · split
    · exact Sim.pure trivial
    · exact Sim.halt
theorem mapM_sim {α β : Type} (f : α → Sem β) (h : ∀ x, (Sim K (Program.mk T F1) (Program.mk T F2)) (f x) (f x) (fun _ => True)) (a : Array α) : (Sim K (Program.mk T F1) (Program.mk T F2)) (a.mapM f) (a.mapM f) (fun _ => True) := by
  rw [Array.mapM_eq_mapM_toList]
  refine Sim.bind (e1 := List.mapM f a.toList) (e2 := List.mapM f a.toList) (Ψ := fun _ => True) ?_ (fun _ _ => Sim.pure trivial)
  generalize a.toList = l
  induction l with
  | nil => rw [List.mapM_nil]; exact Sim.pure trivial
  | cons x l ih =>
    rw [List.mapM_cons]
    exact Sim.bind (h x) fun _ _ => Sim.bind ih fun _ _ => Sim.pure trivial

theorem foldlM_sim {α β : Type} (f : β → α → Sem β) (h : ∀ b x, (Sim K (Program.mk T F1) (Program.mk T F2)) (f b x) (f b x) (fun _ => True)) : ∀ (l : List α) (b : β), (Sim K (Program.mk T F1) (Program.mk T F2)) (l.foldlM f b) (l.foldlM f b) (fun _ => True)
  | [], _ => Sim.pure trivial
  | x :: l, b => Sim.bind (h b x) fun _ _ => foldlM_sim f h l _

theorem forInL_sim {α β : Type} (f : α → β → Sem (ForInStep β)) (h : ∀ x b, (Sim K (Program.mk T F1) (Program.mk T F2)) (f x b) (f x b) (fun _ => True)) : ∀ (l : List α) (b : β), (Sim K (Program.mk T F1) (Program.mk T F2)) (forIn l b f) (forIn l b f) (fun _ => True) := by
  intro l
  induction l with
  | nil => intro b; rw [List.forIn_nil]; exact Sim.pure trivial
  | cons x l ih =>
    intro b
    rw [List.forIn_cons]
    refine Sim.bind (h x b) fun r _ => ?_
    cases r
    · exact Sim.pure trivial
    · exact ih _

theorem forIn_sim {α β : Type} (f : α → β → Sem (ForInStep β)) (h : ∀ x b, (Sim K (Program.mk T F1) (Program.mk T F2)) (f x b) (f x b) (fun _ => True)) (a : Array α) (b : β) : (Sim K (Program.mk T F1) (Program.mk T F2)) (forIn a b f) (forIn a b f) (fun _ => True) := by
  rw [← Array.forIn_toList]
  exact forInL_sim f h _ _

theorem floatArith_sim (op : BinOp) (k : FloatKind) (x y : Nat) : (Sim K (Program.mk T F1) (Program.mk T F2)) (Op.floatArith op k x y) (Op.floatArith op k x y) (fun _ => True) := by
  unfold Op.floatArith
  repeat (first
    | exact Sim.halt
    | exact runtimePanic_sim _
    | exact boundsPanic_sim _ _ _ _
    | exact goPanic_sim _
    | exact Sim.pure trivial
    | exact underlying_sim _
    | exact typeInfo_sim _
    | exact sizeOf_sim _
    | exact isAgg_sim _
    | exact zeroValue_sim _
    | exact asIntOf_sim _
    | exact asInt_sim _
    | exact asBool_sim _
    | exact asAgg_sim _
    | exact sureAddr_sim _
    | exact choose_sim _
    | exact newRow_sim _ _
    | exact newVar_sim _ _
    | exact asAddr_sim _
    | exact loadCells_sim _ _
    | exact loadVar_sim _ _
    | exact part_sim _ _ _
    | (refine Sim.bind (Ψ := fun _ => True) ?_ (fun _ _ => ?_))
    | (refine Sim.ite (fun _ => ?_) (fun _ => ?_))
    | split
    | (dsimp only))

theorem floatCmp_sim (op : BinOp) (k : FloatKind) (x y : Nat) : (Sim K (Program.mk T F1) (Program.mk T F2)) (Op.floatCmp op k x y) (Op.floatCmp op k x y) (fun _ => True) := by
  unfold Op.floatCmp
  repeat (first
    | exact Sim.halt
    | exact runtimePanic_sim _
    | exact boundsPanic_sim _ _ _ _
    | exact goPanic_sim _
    | exact Sim.pure trivial
    | exact underlying_sim _
    | exact typeInfo_sim _
    | exact sizeOf_sim _
    | exact isAgg_sim _
    | exact zeroValue_sim _
    | exact asIntOf_sim _
    | exact asInt_sim _
    | exact asBool_sim _
    | exact asAgg_sim _
    | exact sureAddr_sim _
    | exact choose_sim _
    | exact newRow_sim _ _
    | exact newVar_sim _ _
    | exact asAddr_sim _
    | exact loadCells_sim _ _
    | exact loadVar_sim _ _
    | exact part_sim _ _ _
    | (refine Sim.bind (Ψ := fun _ => True) ?_ (fun _ _ => ?_))
    | (refine Sim.ite (fun _ => ?_) (fun _ => ?_))
    | split
    | (dsimp only))

theorem floatToFloat_sim (s : FloatKind) (x : Nat) (d : FloatKind) : (Sim K (Program.mk T F1) (Program.mk T F2)) (Conv.floatToFloat s x d) (Conv.floatToFloat s x d) (fun _ => True) := by
  unfold Conv.floatToFloat
  repeat (first
    | exact Sim.halt
    | exact runtimePanic_sim _
    | exact boundsPanic_sim _ _ _ _
    | exact goPanic_sim _
    | exact Sim.pure trivial
    | exact underlying_sim _
    | exact typeInfo_sim _
    | exact sizeOf_sim _
    | exact isAgg_sim _
    | exact zeroValue_sim _
    | exact asIntOf_sim _
    | exact asInt_sim _
    | exact asBool_sim _
    | exact asAgg_sim _
    | exact sureAddr_sim _
    | exact choose_sim _
    | exact newRow_sim _ _
    | exact newVar_sim _ _
    | exact asAddr_sim _
    | exact loadCells_sim _ _
    | exact loadVar_sim _ _
    | exact part_sim _ _ _
    | (refine Sim.bind (Ψ := fun _ => True) ?_ (fun _ _ => ?_))
    | (refine Sim.ite (fun _ => ?_) (fun _ => ?_))
    | split
    | (dsimp only))

theorem carith_sim (op : BinOp) (k : FloatKind) (x y : Nat) : (Sim K (Program.mk T F1) (Program.mk T F2)) (Op.Complex.arith op k x y) (Op.Complex.arith op k x y) (fun _ => True) := by
  unfold Op.Complex.arith
  repeat (first
    | exact Sim.halt
    | exact runtimePanic_sim _
    | exact boundsPanic_sim _ _ _ _
    | exact goPanic_sim _
    | exact Sim.pure trivial
    | exact floatArith_sim _ _ _ _
    | exact underlying_sim _
    | exact typeInfo_sim _
    | exact sizeOf_sim _
    | exact isAgg_sim _
    | exact zeroValue_sim _
    | exact asIntOf_sim _
    | exact asInt_sim _
    | exact asBool_sim _
    | exact asAgg_sim _
    | exact sureAddr_sim _
    | exact choose_sim _
    | exact newRow_sim _ _
    | exact newVar_sim _ _
    | exact asAddr_sim _
    | exact loadCells_sim _ _
    | exact loadVar_sim _ _
    | exact part_sim _ _ _
    | (refine Sim.bind (Ψ := fun _ => True) ?_ (fun _ _ => ?_))
    | (refine Sim.ite (fun _ => ?_) (fun _ => ?_))
    | split
    | (dsimp only))

theorem ccmp_sim (op : BinOp) (k : FloatKind) (x y : Nat) : (Sim K (Program.mk T F1) (Program.mk T F2)) (Op.Complex.cmp op k x y) (Op.Complex.cmp op k x y) (fun _ => True) := by
  unfold Op.Complex.cmp
  repeat (first
    | exact Sim.halt
    | exact runtimePanic_sim _
    | exact boundsPanic_sim _ _ _ _
    | exact goPanic_sim _
    | exact Sim.pure trivial
    | exact floatCmp_sim _ _ _ _
    | exact underlying_sim _
    | exact typeInfo_sim _
    | exact sizeOf_sim _
    | exact isAgg_sim _
    | exact zeroValue_sim _
    | exact asIntOf_sim _
    | exact asInt_sim _
    | exact asBool_sim _
    | exact asAgg_sim _
    | exact sureAddr_sim _
    | exact choose_sim _
    | exact newRow_sim _ _
    | exact newVar_sim _ _
    | exact asAddr_sim _
    | exact loadCells_sim _ _
    | exact loadVar_sim _ _
    | exact part_sim _ _ _
    | (refine Sim.bind (Ψ := fun _ => True) ?_ (fun _ _ => ?_))
    | (refine Sim.ite (fun _ => ?_) (fun _ => ?_))
    | split
    | (dsimp only))

theorem cconv_sim (s : FloatKind) (x : Nat) (d : FloatKind) : (Sim K (Program.mk T F1) (Program.mk T F2)) (Op.Complex.conv s x d) (Op.Complex.conv s x d) (fun _ => True) := by
  unfold Op.Complex.conv
  repeat (first
    | exact Sim.halt
    | exact runtimePanic_sim _
    | exact boundsPanic_sim _ _ _ _
    | exact goPanic_sim _
    | exact Sim.pure trivial
    | exact floatToFloat_sim _ _ _
    | exact underlying_sim _
    | exact typeInfo_sim _
    | exact sizeOf_sim _
    | exact isAgg_sim _
    | exact zeroValue_sim _
    | exact asIntOf_sim _
    | exact asInt_sim _
    | exact asBool_sim _
    | exact asAgg_sim _
    | exact sureAddr_sim _
    | exact choose_sim _
    | exact newRow_sim _ _
    | exact newVar_sim _ _
    | exact asAddr_sim _
    | exact loadCells_sim _ _
    | exact loadVar_sim _ _
    | exact part_sim _ _ _
    | (refine Sim.bind (Ψ := fun _ => True) ?_ (fun _ _ => ?_))
    | (refine Sim.ite (fun _ => ?_) (fun _ => ?_))
    | split
    | (dsimp only))

theorem product_sim (a b c d : Nat) : (Sim K (Program.mk T F1) (Program.mk T F2)) (Op.Complex.product a b c d) (Op.Complex.product a b c d) (fun _ => True) := by
  unfold Op.Complex.product Op.Complex.sub Op.Complex.add Op.Complex.mul
  repeat (first
    | exact Sim.halt
    | exact runtimePanic_sim _
    | exact boundsPanic_sim _ _ _ _
    | exact goPanic_sim _
    | exact Sim.pure trivial
    | exact carith_sim _ _ _ _
    | exact ccmp_sim _ _ _ _
    | exact cconv_sim _ _ _
    | exact underlying_sim _
    | exact typeInfo_sim _
    | exact sizeOf_sim _
    | exact isAgg_sim _
    | exact zeroValue_sim _
    | exact asIntOf_sim _
    | exact asInt_sim _
    | exact asBool_sim _
    | exact asAgg_sim _
    | exact sureAddr_sim _
    | exact choose_sim _
    | exact newRow_sim _ _
    | exact newVar_sim _ _
    | exact asAddr_sim _
    | exact loadCells_sim _ _
    | exact loadVar_sim _ _
    | exact part_sim _ _ _
    | (refine Sim.bind (Ψ := fun _ => True) ?_ (fun _ _ => ?_))
    | (refine Sim.ite (fun _ => ?_) (fun _ => ?_))
    | split
    | (dsimp only))

theorem complexOp_sim (op : BinOp) (ho : op = .add ∨ op = .sub ∨ op = .mul ∨ op = .eql ∨ op = .neq ∨ op = .lss ∨ op = .leq ∨ op = .gtr ∨ op = .geq) (k : FloatKind) (a b c d : Nat) : (Sim K (Program.mk T F1) (Program.mk T F2)) (Op.complexOp op k a b c d) (Op.complexOp op k a b c d) (fun _ => True) := by
  have arith : ∀ op, (Sim K (Program.mk T F1) (Program.mk T F2)) (Op.Complex.arith op k a c) (Op.Complex.arith op k a c) (fun _ => True) := fun op => carith_sim _ _ _ _
  rcases ho with rfl | rfl | rfl | rfl | rfl | rfl | rfl | rfl | rfl
  · exact Sim.bind (carith_sim _ _ _ _) fun _ _ => Sim.bind (carith_sim _ _ _ _) fun _ _ => Sim.pure trivial
  · exact Sim.bind (carith_sim _ _ _ _) fun _ _ => Sim.bind (carith_sim _ _ _ _) fun _ _ => Sim.pure trivial
  · unfold Op.complexOp
    refine Sim.bind (cconv_sim _ _ _) fun _ _ => Sim.bind (cconv_sim _ _ _) fun _ _ => Sim.bind (cconv_sim _ _ _) fun _ _ => Sim.bind (cconv_sim _ _ _) fun _ _ => ?_
    dsimp only
    split
    · exact Sim.bind (product_sim _ _ _ _) fun _ _ => Sim.bind (cconv_sim _ _ _) fun _ _ => Sim.bind (cconv_sim _ _ _) fun _ _ => Sim.pure trivial
    · rename_i h
      exact absurd rfl h
  · exact Sim.bind (ccmp_sim _ _ _ _) fun _ _ => Sim.bind (ccmp_sim _ _ _ _) fun _ _ => Sim.pure trivial
  · exact Sim.bind (ccmp_sim _ _ _ _) fun _ _ => Sim.bind (ccmp_sim _ _ _ _) fun _ _ => Sim.pure trivial
  · exact Sim.halt
  · exact Sim.halt
  · exact Sim.halt
  · exact Sim.halt

theorem stringOp_sim (op : BinOp) (a b : ByteArray) : (Sim K (Program.mk T F1) (Program.mk T F2)) (Op.stringOp op a b) (Op.stringOp op a b) (fun _ => True) := by
  unfold Op.stringOp
  repeat (first
    | exact Sim.halt
    | exact runtimePanic_sim _
    | exact boundsPanic_sim _ _ _ _
    | exact goPanic_sim _
    | exact Sim.pure trivial
    | exact underlying_sim _
    | exact typeInfo_sim _
    | exact sizeOf_sim _
    | exact isAgg_sim _
    | exact zeroValue_sim _
    | exact asIntOf_sim _
    | exact asInt_sim _
    | exact asBool_sim _
    | exact asAgg_sim _
    | exact sureAddr_sim _
    | exact choose_sim _
    | exact newRow_sim _ _
    | exact newVar_sim _ _
    | exact asAddr_sim _
    | exact loadCells_sim _ _
    | exact loadVar_sim _ _
    | exact part_sim _ _ _
    | (refine Sim.bind (Ψ := fun _ => True) ?_ (fun _ _ => ?_))
    | (refine Sim.ite (fun _ => ?_) (fun _ => ?_))
    | split
    | (dsimp only))

theorem intArith_sim (op : BinOp) (k : IntKind) (a b : Int) : (Sim K (Program.mk T F1) (Program.mk T F2)) (Op.intArith op k a b) (Op.intArith op k a b) (fun _ => True) := by
  unfold Op.intArith
  repeat (first
    | exact Sim.halt
    | exact runtimePanic_sim _
    | exact boundsPanic_sim _ _ _ _
    | exact goPanic_sim _
    | exact Sim.pure trivial
    | exact underlying_sim _
    | exact typeInfo_sim _
    | exact sizeOf_sim _
    | exact isAgg_sim _
    | exact zeroValue_sim _
    | exact asIntOf_sim _
    | exact asInt_sim _
    | exact asBool_sim _
    | exact asAgg_sim _
    | exact sureAddr_sim _
    | exact choose_sim _
    | exact newRow_sim _ _
    | exact newVar_sim _ _
    | exact asAddr_sim _
    | exact loadCells_sim _ _
    | exact loadVar_sim _ _
    | exact part_sim _ _ _
    | (refine Sim.bind (Ψ := fun _ => True) ?_ (fun _ _ => ?_))
    | (refine Sim.ite (fun _ => ?_) (fun _ => ?_))
    | split
    | (dsimp only))

theorem intDiv_sim (op : BinOp) (k : IntKind) (a b : Int) : (Sim K (Program.mk T F1) (Program.mk T F2)) (Op.intDiv op k a b) (Op.intDiv op k a b) (fun _ => True) := by
  unfold Op.intDiv
  repeat (first
    | exact Sim.halt
    | exact runtimePanic_sim _
    | exact boundsPanic_sim _ _ _ _
    | exact goPanic_sim _
    | exact Sim.pure trivial
    | exact underlying_sim _
    | exact typeInfo_sim _
    | exact sizeOf_sim _
    | exact isAgg_sim _
    | exact zeroValue_sim _
    | exact asIntOf_sim _
    | exact asInt_sim _
    | exact asBool_sim _
    | exact asAgg_sim _
    | exact sureAddr_sim _
    | exact choose_sim _
    | exact newRow_sim _ _
    | exact newVar_sim _ _
    | exact asAddr_sim _
    | exact loadCells_sim _ _
    | exact loadVar_sim _ _
    | exact part_sim _ _ _
    | (refine Sim.bind (Ψ := fun _ => True) ?_ (fun _ _ => ?_))
    | (refine Sim.ite (fun _ => ?_) (fun _ => ?_))
    | split
    | (dsimp only))

theorem intCmp_sim (op : BinOp) (a b : Int) : (Sim K (Program.mk T F1) (Program.mk T F2)) (Op.intCmp op a b) (Op.intCmp op a b) (fun _ => True) := by
  unfold Op.intCmp
  repeat (first
    | exact Sim.halt
    | exact runtimePanic_sim _
    | exact boundsPanic_sim _ _ _ _
    | exact goPanic_sim _
    | exact Sim.pure trivial
    | exact underlying_sim _
    | exact typeInfo_sim _
    | exact sizeOf_sim _
    | exact isAgg_sim _
    | exact zeroValue_sim _
    | exact asIntOf_sim _
    | exact asInt_sim _
    | exact asBool_sim _
    | exact asAgg_sim _
    | exact sureAddr_sim _
    | exact choose_sim _
    | exact newRow_sim _ _
    | exact newVar_sim _ _
    | exact asAddr_sim _
    | exact loadCells_sim _ _
    | exact loadVar_sim _ _
    | exact part_sim _ _ _
    | (refine Sim.bind (Ψ := fun _ => True) ?_ (fun _ _ => ?_))
    | (refine Sim.ite (fun _ => ?_) (fun _ => ?_))
    | split
    | (dsimp only))

theorem intBits_sim (op : BinOp) (k : IntKind) (a b : Int) : (Sim K (Program.mk T F1) (Program.mk T F2)) (Op.intBits op k a b) (Op.intBits op k a b) (fun _ => True) := by
  unfold Op.intBits
  repeat (first
    | exact Sim.halt
    | exact runtimePanic_sim _
    | exact boundsPanic_sim _ _ _ _
    | exact goPanic_sim _
    | exact Sim.pure trivial
    | exact underlying_sim _
    | exact typeInfo_sim _
    | exact sizeOf_sim _
    | exact isAgg_sim _
    | exact zeroValue_sim _
    | exact asIntOf_sim _
    | exact asInt_sim _
    | exact asBool_sim _
    | exact asAgg_sim _
    | exact sureAddr_sim _
    | exact choose_sim _
    | exact newRow_sim _ _
    | exact newVar_sim _ _
    | exact asAddr_sim _
    | exact loadCells_sim _ _
    | exact loadVar_sim _ _
    | exact part_sim _ _ _
    | (refine Sim.bind (Ψ := fun _ => True) ?_ (fun _ _ => ?_))
    | (refine Sim.ite (fun _ => ?_) (fun _ => ?_))
    | split
    | (dsimp only))

theorem unary_sim (op : UnOp) (x : Value) : (Sim K (Program.mk T F1) (Program.mk T F2)) (Op.unary op x) (Op.unary op x) (fun _ => True) := by
  unfold Op.unary
  repeat (first
    | exact Sim.halt
    | exact runtimePanic_sim _
    | exact boundsPanic_sim _ _ _ _
    | exact goPanic_sim _
    | exact Sim.pure trivial
    | exact intArith_sim _ _ _ _
    | exact intBits_sim _ _ _ _
    | exact underlying_sim _
    | exact typeInfo_sim _
    | exact sizeOf_sim _
    | exact isAgg_sim _
    | exact zeroValue_sim _
    | exact asIntOf_sim _
    | exact asInt_sim _
    | exact asBool_sim _
    | exact asAgg_sim _
    | exact sureAddr_sim _
    | exact choose_sim _
    | exact newRow_sim _ _
    | exact newVar_sim _ _
    | exact asAddr_sim _
    | exact loadCells_sim _ _
    | exact loadVar_sim _ _
    | exact part_sim _ _ _
    | (refine Sim.bind (Ψ := fun _ => True) ?_ (fun _ _ => ?_))
    | (refine Sim.ite (fun _ => ?_) (fun _ => ?_))
    | split
    | (dsimp only))

theorem max2_sim (x y : Value) : (Sim K (Program.mk T F1) (Program.mk T F2)) (Builtin.max2 x y) (Builtin.max2 x y) (fun _ => True) := by
  unfold Builtin.max2
  repeat (first
    | exact Sim.halt
    | exact runtimePanic_sim _
    | exact boundsPanic_sim _ _ _ _
    | exact goPanic_sim _
    | exact Sim.pure trivial
    | exact stringOp_sim _ _ _
    | exact underlying_sim _
    | exact typeInfo_sim _
    | exact sizeOf_sim _
    | exact isAgg_sim _
    | exact zeroValue_sim _
    | exact asIntOf_sim _
    | exact asInt_sim _
    | exact asBool_sim _
    | exact asAgg_sim _
    | exact sureAddr_sim _
    | exact choose_sim _
    | exact newRow_sim _ _
    | exact newVar_sim _ _
    | exact asAddr_sim _
    | exact loadCells_sim _ _
    | exact loadVar_sim _ _
    | exact part_sim _ _ _
    | (refine Sim.bind (Ψ := fun _ => True) ?_ (fun _ _ => ?_))
    | (refine Sim.ite (fun _ => ?_) (fun _ => ?_))
    | split
    | (dsimp only))

theorem min2_sim (x y : Value) : (Sim K (Program.mk T F1) (Program.mk T F2)) (Builtin.min2 x y) (Builtin.min2 x y) (fun _ => True) := by
  unfold Builtin.min2
  repeat (first
    | exact Sim.halt
    | exact runtimePanic_sim _
    | exact boundsPanic_sim _ _ _ _
    | exact goPanic_sim _
    | exact Sim.pure trivial
    | exact stringOp_sim _ _ _
    | exact underlying_sim _
    | exact typeInfo_sim _
    | exact sizeOf_sim _
    | exact isAgg_sim _
    | exact zeroValue_sim _
    | exact asIntOf_sim _
    | exact asInt_sim _
    | exact asBool_sim _
    | exact asAgg_sim _
    | exact sureAddr_sim _
    | exact choose_sim _
    | exact newRow_sim _ _
    | exact newVar_sim _ _
    | exact asAddr_sim _
    | exact loadCells_sim _ _
    | exact loadVar_sim _ _
    | exact part_sim _ _ _
    | (refine Sim.bind (Ψ := fun _ => True) ?_ (fun _ _ => ?_))
    | (refine Sim.ite (fun _ => ?_) (fun _ => ?_))
    | split
    | (dsimp only))

theorem max_sim (ts : Array TypeId) (t : TypeId) (a : Array Value) : (Sim K (Program.mk T F1) (Program.mk T F2)) (Builtin.max_ ts t a) (Builtin.max_ ts t a) (fun _ => True) := by
  unfold Builtin.max_
  repeat (first
    | exact Sim.halt
    | exact runtimePanic_sim _
    | exact boundsPanic_sim _ _ _ _
    | exact goPanic_sim _
    | exact Sim.pure trivial
    | exact foldlM_sim _ max2_sim _ _
    | exact underlying_sim _
    | exact typeInfo_sim _
    | exact sizeOf_sim _
    | exact isAgg_sim _
    | exact zeroValue_sim _
    | exact asIntOf_sim _
    | exact asInt_sim _
    | exact asBool_sim _
    | exact asAgg_sim _
    | exact sureAddr_sim _
    | exact choose_sim _
    | exact newRow_sim _ _
    | exact newVar_sim _ _
    | exact asAddr_sim _
    | exact loadCells_sim _ _
    | exact loadVar_sim _ _
    | exact part_sim _ _ _
    | (refine Sim.bind (Ψ := fun _ => True) ?_ (fun _ _ => ?_))
    | (refine Sim.ite (fun _ => ?_) (fun _ => ?_))
    | split
    | (dsimp only))

theorem min_sim (ts : Array TypeId) (t : TypeId) (a : Array Value) : (Sim K (Program.mk T F1) (Program.mk T F2)) (Builtin.min_ ts t a) (Builtin.min_ ts t a) (fun _ => True) := by
  unfold Builtin.min_
  repeat (first
    | exact Sim.halt
    | exact runtimePanic_sim _
    | exact boundsPanic_sim _ _ _ _
    | exact goPanic_sim _
    | exact Sim.pure trivial
    | exact foldlM_sim _ min2_sim _ _
    | exact underlying_sim _
    | exact typeInfo_sim _
    | exact sizeOf_sim _
    | exact isAgg_sim _
    | exact zeroValue_sim _
    | exact asIntOf_sim _
    | exact asInt_sim _
    | exact asBool_sim _
    | exact asAgg_sim _
    | exact sureAddr_sim _
    | exact choose_sim _
    | exact newRow_sim _ _
    | exact newVar_sim _ _
    | exact asAddr_sim _
    | exact loadCells_sim _ _
    | exact loadVar_sim _ _
    | exact part_sim _ _ _
    | (refine Sim.bind (Ψ := fun _ => True) ?_ (fun _ _ => ?_))
    | (refine Sim.ite (fun _ => ?_) (fun _ => ?_))
    | split
    | (dsimp only))

theorem numberAt_sim (b : Nat) : (Sim K (Program.mk T F1) (Program.mk T F2)) (numberAt b) (numberAt b) (fun _ => True) := by
  unfold numberAt
  refine Sim.shape ?_ (fun e n m _ => ?_)
  · refine Sim.getObj (fun o o' hd _ hn => ?_)
    rcases hd with ⟨_, rfl⟩ | ⟨_, hd⟩
    · cases o <;> exact Sim.pure trivial
    · cases hd with
      | empty => exact absurd rfl (hn _ _ _)
      | froz => exact absurd rfl (hn _ _ _)
      | keep o hk => cases o <;> exact Sim.pure trivial
      | _ => exact Sim.pure trivial
  · exact Sim.pure trivial

theorem viewAtSome_sim (b : Nat) {β : Type} (k : Bool → Sem β) {Φ : β → Prop} (h : ∀ x, (Sim K (Program.mk T F1) (Program.mk T F2)) (k x) (k x) Φ) : (Sim K (Program.mk T F1) (Program.mk T F2)) ((viewAt b).bind fun r => k r.isSome) ((viewAt b).bind fun r => k r.isSome) Φ := by
  unfold viewAt
  refine Sim.shape ?_ (fun e n m _ => ?_)
  · refine Sim.getObj (fun o o' hd _ hn => ?_)
    rcases hd with ⟨_, rfl⟩ | ⟨_, hd⟩
    · cases o <;> exact h _
    · cases hd with
      | empty => exact absurd rfl (hn _ _ _)
      | froz => exact absurd rfl (hn _ _ _)
      | keep o hk => cases o <;> exact h _
      | _ => exact h _
  · exact h _

theorem noView_sim (a : Addr) : (Sim K (Program.mk T F1) (Program.mk T F2)) (noView a) (noView a) (fun _ => True) := by
  unfold noView
  refine viewAtSome_sim a.block (fun b => if b = true then unsupported _ else Sem.pure ()) (fun x => ?_)
  split
  · exact Sim.halt
  · exact Sim.pure trivial

theorem behindNumber_sim (a : Addr) : (Sim K (Program.mk T F1) (Program.mk T F2)) (behindNumber a) (behindNumber a) (fun _ => True) := Sim.bind (numberAt_sim _) fun _ _ => Sim.pure trivial

theorem asNumber_sim (a : Addr) (l : Bool) : (Sim K (Program.mk T F1) (Program.mk T F2)) (asNumber a l) (asNumber a l) (fun _ => True) := Sim.bind (Sim.new (o := .number a l) trivial fun _ _ => Sim.pure (Φ := fun _ => True) trivial) fun _ _ => Sim.pure trivial

theorem byteOfCell_eq : ∀ (d : Nat) (t : TypeId) (o : Nat), byteOfCell (Program.mk T F2) d t o = byteOfCell (Program.mk T F1) d t o
  | 0, _, _ => rfl
  | d + 1, t, o => by
    have ih := byteOfCell_eq d
    unfold byteOfCell
    have e : (Program.mk T F2).underlying t = (Program.mk T F1).underlying t := rfl
    rw [e]
    have c : ∀ u, (Program.mk T F2).cellsOf u = (Program.mk T F1).cellsOf u := fun _ => rfl
    have b : ∀ u, (Program.mk T F2).bytesOf u = (Program.mk T F1).bytesOf u := fun _ => rfl
    simp only [ih, c, b]

theorem cellOfByte_eq : ∀ (d : Nat) (t : TypeId) (o : Nat), cellOfByte (Program.mk T F2) d t o = cellOfByte (Program.mk T F1) d t o
  | 0, _, _ => rfl
  | d + 1, t, o => by
    have ih := cellOfByte_eq d
    unfold cellOfByte
    have e : (Program.mk T F2).underlying t = (Program.mk T F1).underlying t := rfl
    rw [e]
    have c : ∀ u, (Program.mk T F2).cellsOf u = (Program.mk T F1).cellsOf u := fun _ => rfl
    have b : ∀ u, (Program.mk T F2).bytesOf u = (Program.mk T F1).bytesOf u := fun _ => rfl
    simp only [ih, c, b]

theorem byteOf_sim (a : Addr) : (Sim K (Program.mk T F1) (Program.mk T F2)) (byteOf a) (byteOf a) (fun _ => True) := by
  unfold byteOf
  split
  · exact Sim.pure trivial
  · refine Sim.program ?_
    dsimp only [Sem.bind, bind]
    refine Sim.bind (noView_sim a) fun _ _ => ?_
    refine Sim.shape Sim.halt (fun e n m _ => ?_)
    have c : (Program.mk T F2).cellsOf e = (Program.mk T F1).cellsOf e := rfl
    have b : (Program.mk T F2).bytesOf e = (Program.mk T F1).bytesOf e := rfl
    have d : (Program.mk T F2).depth = (Program.mk T F1).depth := rfl
    dsimp only [pure_bind, Sem.bind, bind, pure]
    rw [c, b, d, byteOfCell_eq (F1 := F1) (F2 := F2)]
    split
    · exact Sim.pure trivial
    · split
      · exact Sim.pure trivial
      · exact Sim.halt

theorem partAt_sim (a : Addr) (c b : Nat) : (Sim K (Program.mk T F1) (Program.mk T F2)) (partAt a c b) (partAt a c b) (fun _ => True) := by
  unfold partAt
  exact Sim.bind (byteOf_sim _) fun _ _ => Sim.bind (byteOf_sim _) fun _ _ => Sim.pure trivial

theorem fieldPlace_sim (a : Addr) (f : Field) : (Sim K (Program.mk T F1) (Program.mk T F2)) (fieldPlace a f) (fieldPlace a f) (fun _ => True) := by
  unfold fieldPlace
  refine Sim.bind (sizeOf_sim _) fun _ _ => ?_
  split
  · exact partAt_sim _ _ _
  · exact Sim.pure trivial

theorem cellAtBytes_eq (d : Nat) (e : TypeId) (c o : Nat) (b : Int) : cellAtBytes (Program.mk T F2) d e c o b = cellAtBytes (Program.mk T F1) d e c o b := by
  have c : ∀ u, (Program.mk T F2).cellsOf u = (Program.mk T F1).cellsOf u := fun _ => rfl
  have b : ∀ u, (Program.mk T F2).bytesOf u = (Program.mk T F1).bytesOf u := fun _ => rfl
  unfold cellAtBytes
  simp only [c, b, byteOfCell_eq (F1 := F1) (F2 := F2), cellOfByte_eq (F1 := F1) (F2 := F2)]

theorem cellAtBytes_zero (P : Program) (d : Nat) (e : TypeId) (o : Nat) (b : Int) : cellAtBytes P d e 0 o b = none := by
  unfold cellAtBytes
  dsimp only
  split
  · rfl
  · cases byteOfCell P d e (o % P.cellsOf e) with
    | none => rfl
    | some h =>
      simp only [Option.bind_eq_bind, Option.bind_some, Nat.zero_mul]
      split
      · rfl
      · rename_i hc
        simp at hc
        omega

theorem unsafeAdd_sim (ts : Array TypeId) (t : TypeId) (ptr : Option Addr) (y : Value) : (Sim K (Program.mk T F1) (Program.mk T F2)) (Builtin.unsafeAdd_ ts t #[.pointer ptr, y]) (Builtin.unsafeAdd_ ts t #[.pointer ptr, y]) (fun _ => True) := by
  unfold Builtin.unsafeAdd_
  dsimp only
  refine Sim.bind (asInt_sim _) fun n _ => ?_
  split
  · split
    · rename_i a
      refine viewAtSome_sim a.block (fun b => if b = true then _ else _) (fun x => ?_)
      split
      · exact Sim.halt
      · exact Sim.pure trivial
    · exact Sim.halt
  · split
    · exact Sim.halt
    · split
      · rename_i a
        refine Sim.shape Sim.halt (fun e n' m hm => ?_)
        refine Sim.program ?_
        dsimp only [Sem.bind]
        have d : (Program.mk T F2).depth = (Program.mk T F1).depth := rfl
        have c : (Program.mk T F2).cellsOf e = (Program.mk T F1).cellsOf e := rfl
        rw [cellAtBytes_eq (F1 := F1) (F2 := F2), d, c]
        rcases hm with rfl | rfl
        · split
          · exact Sim.pure trivial
          · exact Sim.halt
        · rw [Nat.zero_div, cellAtBytes_zero]
          exact Sim.halt
      · exact Sim.halt

theorem movedNumber_sim (t : TypeId) (x y : Value) (hx : ∃ a, x = .pointer a) : (Sim K (Program.mk T F1) (Program.mk T F2)) (movedNumber t x y) (movedNumber t x y) (fun _ => True) := by
  obtain ⟨a, rfl⟩ := hx
  unfold movedNumber
  refine Sim.bind (underlying_sim _) fun d _ => ?_
  dsimp only
  split
  · exact Sim.halt
  · simp only [Bool.false_eq_true, if_false]
    cases a with
    | none => exact unsafeAdd_sim _ _ _ _
    | some a =>
      refine Sim.bind (behindNumber_sim _) fun r _ => ?_
      refine Sim.bind (unsafeAdd_sim _ _ _ _) fun r _ => ?_
      split
      · exact asNumber_sim _ _
      · exact Sim.pure trivial

theorem movedPointer_sim (t : TypeId) (x y : Value) (hx : ∃ a, x = .pointer a) : (Sim K (Program.mk T F1) (Program.mk T F2)) (movedPointer t x y) (movedPointer t x y) (fun _ => True) := by
  obtain ⟨a, rfl⟩ := hx
  unfold movedPointer
  cases a with
  | none => exact unsafeAdd_sim _ _ _ _
  | some a =>
    refine Sim.bind (numberAt_sim _) fun r _ => ?_
    dsimp only
    split
    · exact Sim.halt
    · exact unsafeAdd_sim _ _ _ _

theorem twoPlaces_sim (a b : Addr) : (Sim K (Program.mk T F1) (Program.mk T F2)) (Op.twoPlaces a b) (Op.twoPlaces a b) (fun _ => True) := by
  unfold Op.twoPlaces
  refine Sim.program ?_
  dsimp only [Sem.bind, bind, pure]
  split
  · exact Sim.halt
  · exact Sim.bind (byteOf_sim _) fun _ _ => Sim.bind (byteOf_sim _) fun _ _ => Sim.pure trivial

theorem addrSub_sim (k : IntKind) (a b : Addr) : (Sim K (Program.mk T F1) (Program.mk T F2)) (Op.addrSub k a b) (Op.addrSub k a b) (fun _ => True) := Sim.bind (twoPlaces_sim _ _) fun _ _ => Sim.pure trivial
theorem addrCmp_sim (op : BinOp) (a b : Addr) : (Sim K (Program.mk T F1) (Program.mk T F2)) (Op.addrCmp op a b) (Op.addrCmp op a b) (fun _ => True) := by
  refine Sim.bind (twoPlaces_sim _ _) fun _ _ => ?_
  dsimp only
  split <;> first | exact Sim.pure trivial | exact Sim.halt

/-! ### equality of values that hold no address -/
/-- A type whose values hold no address that is compared. -/
def flatT (T : Tables) : Nat → TypeId → Bool
  | 0, _ => true
  | d + 1, t => match (Program.mk T #[]).underlying t with
    | some (.bool) | some (.slice _) => true
    | some (.int _) => true
    | some (.struct fs) => fs.all (fun f => flatT T d f.type)
    | _ => false

/-- The types that may be compared are flat. -/
structure FlatEqsP (T : Tables) : Prop where
  flat : ∀ t, Eqs.E t = true → flatT T Op.maxDepth t = true
abbrev FlatEqs (T : Tables) : Prop := Nonempty (FlatEqsP T)
theorem FlatEqs.flat {T : Tables} [h : FlatEqs T] : ∀ t, Eqs.E t = true → flatT T Op.maxDepth t = true := h.elim fun x => x.flat

theorem underlying_is (t : TypeId) : (Sim K (Program.mk T F1) (Program.mk T F2)) (underlying t) (underlying t) (fun d => (Program.mk T #[]).underlying t = some d) := by
  refine Sim.program ?_
  show (Sim K (Program.mk T F1) (Program.mk T F2)) (match (Program.mk T #[]).underlying t with | some d => Sem.pure d | none => stuck "no such type") (match (Program.mk T #[]).underlying t with | some d => Sem.pure d | none => stuck "no such type") _
  split
  · rename_i h; exact Sim.pure h
  · exact Sim.halt

theorem forInM_sim {α β : Type} (f : α → β → Sem (ForInStep β)) : ∀ (l : List α) (_h : ∀ x ∈ l, ∀ b, (Sim K (Program.mk T F1) (Program.mk T F2)) (f x b) (f x b) (fun _ => True)) (b : β), (Sim K (Program.mk T F1) (Program.mk T F2)) (forIn l b f) (forIn l b f) (fun _ => True)
  | [], _, b => by
    rw [List.forIn_nil]
    exact Sim.pure trivial
  | x :: l, h, b => by
    have ih := forInM_sim f l (fun y hy => h y (List.mem_cons_of_mem _ hy))
    rw [List.forIn_cons]
    refine Sim.bind (h x (List.mem_cons_self ..) b) fun r _ => ?_
    cases r
    · exact Sim.pure trivial
    · exact ih _

theorem alikeButTags_eq : ∀ (d : Nat) (t u : TypeId), (Program.mk T F2).alikeButTags d t u = (Program.mk T F1).alikeButTags d t u
  | 0, _, _ => rfl
  | d + 1, t, u => by
    have ih := alikeButTags_eq d
    unfold Program.alikeButTags
    simp only [ih]
    try rfl

theorem stoodInHeld_eq (t : TypeId) : (Program.mk T F2).stoodInHeld t = (Program.mk T F1).stoodInHeld t := by
  unfold Program.stoodInHeld Program.stoodInAs
  have d : (Program.mk T F2).depth = (Program.mk T F1).depth := rfl
  simp only [alikeButTags_eq (F1 := F1) (F2 := F2), d]
  rfl

theorem eqGuardType_eq : ∀ (d : Nat) (t : TypeId), (Program.mk T F2).eqGuardType d t = (Program.mk T F1).eqGuardType d t
  | 0, _ => rfl
  | d + 1, t => by
    have ih := eqGuardType_eq d
    unfold Program.eqGuardType
    simp only [ih]
    try rfl

theorem typeStr_calm (t : TypeId) : Calm K (Program.mk T F1) (typeStr t) := by
  refine calm_bind (calm_of_sim (P2 := Program.mk T F1) (typeInfo_sim t)) fun u => ?_
  dsimp only
  split
  · exact fun v hv => .inr ⟨_, v, #[], rfl, trivial, hv.1⟩
  · exact calm_pure _

theorem equalIn_sim : ∀ (d : Nat) (t : TypeId) (x y : Value), flatT T d t = true → (Sim K (Program.mk T F1) (Program.mk T F2)) (Op.equalIn d t x y) (Op.equalIn d t x y) (fun _ => True)
  | 0, _, _, _, _ => Sim.halt
  | d + 1, t, x, y, hf => by
    have ih := equalIn_sim d
    unfold Op.equalIn
    refine Sim.bind (underlying_is _) fun u hu => ?_
    unfold flatT at hf
    rw [hu] at hf
    split
    · exact Sim.pure trivial
    · split
      · exact Sim.pure trivial
      · exact Sim.halt
    · exact Sim.pure trivial
    · exact Sim.pure trivial
    · refine Sim.bind (behindNumber_sim _) fun a _ => Sim.bind (behindNumber_sim _) fun b _ => ?_
      refine Sim.program ?_
      dsimp only [Sem.bind, bind, pure]
      split
      · exact Sim.bind (byteOf_sim _) fun _ _ => Sim.bind (byteOf_sim _) fun _ _ => Sim.pure trivial
      · refine Sim.bind (typeInfo_sim _) fun _ _ => ?_
        split
        · split
          · exact Sim.pure trivial
          · exact Sim.halt
        · exact Sim.halt
    · exact Sim.halt
    · exact Sim.halt
    · cases hf
    · cases hf
    · cases hf
    · cases hf
    · cases hf
    · cases hf
    · cases hf
    · cases hf
    · cases hf
    · cases hf
    · cases hf
    · cases hf
    · refine Sim.program ?_
      dsimp only [Sem.bind, bind, pure]
      rw [stoodInHeld_eq (F1 := F1) (F2 := F2)]
      split
      · exact Sim.halt
      · rename_i fields _ _ _
        rw [Array.all_eq_true_iff_forall_mem] at hf
        refine Sim.bind (Ψ := fun _ => True) ?_ fun r _ => ?_
        · rw [← Array.forIn_toList]
          refine forInM_sim _ _ (fun f hfm s => ?_) _
          split
          · refine Sim.bind (part_sim _ _ _) fun _ _ => Sim.bind (part_sim _ _ _) fun _ _ => Sim.bind (ih _ _ _ (hf f (by simpa using hfm))) fun _ _ => ?_
            split <;> exact Sim.pure trivial
          · exact Sim.pure trivial
        · split <;> exact Sim.pure trivial
    · cases hf
    all_goals first
      | exact Sim.pure trivial
      | exact Sim.halt
      | cases hf

theorem eqGuardIn_sim : ∀ (d : Nat) (t : TypeId) (x y : Value), (Sim K (Program.mk T F1) (Program.mk T F2)) (Op.eqGuardIn d t x y) (Op.eqGuardIn d t x y) (fun _ => True)
  | 0, _, _, _ => Sim.halt
  | d + 1, t, x, y => by
    have ih := eqGuardIn_sim d
    unfold Op.eqGuardIn
    refine Sim.bind (underlying_sim _) fun u _ => ?_
    split
    · exact Sim.pure trivial
    · refine Sim.bind (forIn_sim _ (fun f s => ?_) _ _) fun r _ => ?_
      · split
        · refine Sim.bind (part_sim _ _ _) fun _ _ => Sim.bind (part_sim _ _ _) fun _ _ => Sim.bind (ih _ _ _) fun _ _ => ?_
          split <;> exact Sim.pure trivial
        · exact Sim.pure trivial
      · dsimp only
        split <;> exact Sim.pure trivial
    · refine Sim.bind (sizeOf_sim _) fun n _ => ?_
      refine Sim.bind (Ψ := fun _ => True) ?_ fun r _ => ?_
      · rw [Std.Legacy.Range.forIn_eq_forIn_range']
        refine forInL_sim _ (fun f s => ?_) _ _
        refine Sim.bind (part_sim _ _ _) fun _ _ => Sim.bind (part_sim _ _ _) fun _ _ => Sim.bind (ih _ _ _) fun _ _ => ?_
        split <;> exact Sim.pure trivial
      · dsimp only
        split <;> exact Sim.pure trivial
    · exact Sim.pure trivial

theorem eqGuard_sim (op : BinOp) (t : TypeId) (x y : Operand) (a b : Value) : (Sim K (Program.mk T F1) (Program.mk T F2)) (Go.eqGuard op t x y a b) (Go.eqGuard op t x y a b) (fun _ => True) := by
  have main : (Sim K (Program.mk T F1) (Program.mk T F2)) (match a, b with
      | .nilIface, .nilIface =>
        if (x matches .const _) || (y matches .const _) then Sem.pure ()
        else (Op.eqGuardIn Op.maxDepth t a b).bind fun r => if r = true then unsupported (.noEntry "binop/eql: two nil values of an interface type with methods, neither of them the literal nil") else Sem.pure ()
      | .agg _, .agg _ => program.bind fun p => program.bind fun q => if (!p.eqGuardType q.depth t) = true then Sem.pure () else
          (Op.eqGuardIn Op.maxDepth t a b).bind fun r => if r = true then unsupported (.noEntry "binop/eql: two nil values of an interface type with methods, in a part of a struct or an array") else Sem.pure ()
      | _, _ => Sem.pure ()) (match a, b with
      | .nilIface, .nilIface =>
        if (x matches .const _) || (y matches .const _) then Sem.pure ()
        else (Op.eqGuardIn Op.maxDepth t a b).bind fun r => if r = true then unsupported (.noEntry "binop/eql: two nil values of an interface type with methods, neither of them the literal nil") else Sem.pure ()
      | .agg _, .agg _ => program.bind fun p => program.bind fun q => if (!p.eqGuardType q.depth t) = true then Sem.pure () else
          (Op.eqGuardIn Op.maxDepth t a b).bind fun r => if r = true then unsupported (.noEntry "binop/eql: two nil values of an interface type with methods, in a part of a struct or an array") else Sem.pure ()
      | _, _ => Sem.pure ()) (fun _ => True) := by
    split
    · generalize ((x matches .const _) || (y matches .const _)) = c
      cases c
      · refine Sim.bind (eqGuardIn_sim _ _ _ _) fun r _ => ?_
        cases r
        · exact Sim.pure trivial
        · exact Sim.halt
      · exact Sim.pure trivial
    · refine Sim.program (Sim.program ?_)
      have d : (Program.mk T F2).depth = (Program.mk T F1).depth := rfl
      dsimp only [Sem.bind]
      rw [eqGuardType_eq (F1 := F1) (F2 := F2), d]
      split
      · exact Sim.pure trivial
      · refine Sim.bind (eqGuardIn_sim _ _ _ _) fun r _ => ?_
        cases r
        · exact Sim.pure trivial
        · exact Sim.halt
    · exact Sim.pure trivial
  unfold Go.eqGuard
  cases op <;> first | exact Sim.pure trivial | exact main

theorem addrMod_sim (k : IntKind) (a : Addr) (n : Int) : (Sim K (Program.mk T F1) (Program.mk T F2)) (Op.addrMod k a n) (Op.addrMod k a n) (fun _ => True) := by
  unfold Op.addrMod
  refine Sim.shape Sim.halt (fun e n' m hm => ?_)
  dsimp only [Sem.bind, bind, pure]
  refine Sim.bind (typeInfo_sim _) fun i _ => ?_
  split
  · exact Sim.halt
  · exact Sim.bind (byteOf_sim _) fun _ _ => Sim.pure trivial

/-- The operators of a quiet code. -/
def quietOp (op : BinOp) : Prop := op = .add ∨ op = .sub ∨ op = .mul ∨ op = .eql ∨ op = .neq ∨ op = .lss ∨ op = .leq ∨ op = .gtr ∨ op = .geq

set_option maxHeartbeats 1000000 in
theorem binOp_sim (op : BinOp) (ho : quietOp op) (t : TypeId) (hf : op = .eql ∨ op = .neq → flatT T Op.maxDepth t = true) (x y : Value) : (Sim K (Program.mk T F1) (Program.mk T F2)) (binOp op t x y) (binOp op t x y) (fun _ => True) := by
  have hc := complexOp_sim (K := K) (T := T) (F1 := F1) (F2 := F2) op ho
  have i1 : ∀ k a b, (Sim K (Program.mk T F1) (Program.mk T F2)) (Op.intArith op k a b) (Op.intArith op k a b) (fun _ => True) := fun _ _ _ => intArith_sim _ _ _ _
  have i2 : ∀ a b, (Sim K (Program.mk T F1) (Program.mk T F2)) (Op.intCmp op a b) (Op.intCmp op a b) (fun _ => True) := fun _ _ => intCmp_sim _ _ _
  have f1 : ∀ k a b, (Sim K (Program.mk T F1) (Program.mk T F2)) (Op.floatArith op k a b) (Op.floatArith op k a b) (fun _ => True) := fun _ _ _ => floatArith_sim _ _ _ _
  have f2 : ∀ k a b, (Sim K (Program.mk T F1) (Program.mk T F2)) (Op.floatCmp op k a b) (Op.floatCmp op k a b) (fun _ => True) := fun _ _ _ => floatCmp_sim _ _ _ _
  unfold binOp
  split
  · rcases ho with h | h | h | h | h | h | h | h | h <;> cases h
  · rcases ho with h | h | h | h | h | h | h | h | h <;> cases h
  · split
    · exact Sim.halt
    · split
      · exact i1 _ _ _
      · exact i1 _ _ _
      · exact i1 _ _ _
      · rcases ho with h | h | h | h | h | h | h | h | h <;> cases h
      · rcases ho with h | h | h | h | h | h | h | h | h <;> cases h
      · rcases ho with h | h | h | h | h | h | h | h | h <;> cases h
      · rcases ho with h | h | h | h | h | h | h | h | h <;> cases h
      · rcases ho with h | h | h | h | h | h | h | h | h <;> cases h
      · rcases ho with h | h | h | h | h | h | h | h | h <;> cases h
      · exact i2 _ _
  · split
    · exact Sim.halt
    · split <;> first | exact f1 _ _ _ | exact f2 _ _ _
  · split
    · exact Sim.halt
    · exact hc _ _ _ _ _
  · exact stringOp_sim _ _ _
  · exact Sim.bind (equalIn_sim _ _ _ _ (hf (.inl rfl))) fun _ _ => Sim.pure trivial
  · exact Sim.bind (equalIn_sim _ _ _ _ (hf (.inr rfl))) fun _ _ => Sim.pure trivial
  · refine Sim.bind (underlying_sim _) fun _ _ => ?_
    split
    · exact movedPointer_sim _ _ _ ⟨_, rfl⟩
    · exact movedNumber_sim _ _ _ ⟨_, rfl⟩
  · exact movedNumber_sim _ _ _ ⟨_, rfl⟩
  · exact movedNumber_sim _ _ _ ⟨_, rfl⟩
  · exact Sim.bind (behindNumber_sim _) fun _ _ => Sim.bind (behindNumber_sim _) fun _ _ => addrSub_sim _ _ _
  · exact Sim.bind (behindNumber_sim _) fun _ _ => Sim.bind (behindNumber_sim _) fun _ _ => addrCmp_sim _ _ _
  · exact Sim.bind (behindNumber_sim _) fun _ _ => Sim.bind (behindNumber_sim _) fun _ _ => addrCmp_sim _ _ _
  · exact Sim.bind (behindNumber_sim _) fun _ _ => Sim.bind (behindNumber_sim _) fun _ _ => addrCmp_sim _ _ _
  · exact Sim.bind (behindNumber_sim _) fun _ _ => Sim.bind (behindNumber_sim _) fun _ _ => addrCmp_sim _ _ _
  · rcases ho with h | h | h | h | h | h | h | h | h <;> cases h
  · rcases ho with h | h | h | h | h | h | h | h | h <;> cases h
  · rcases ho with h | h | h | h | h | h | h | h | h <;> cases h
  · exact Sim.halt
  · exact Sim.halt
  · exact Sim.halt
theorem len_sim (ts : Array TypeId) (t : TypeId) (args : Array Value) : (Sim K (Program.mk T F1) (Program.mk T F2)) (Builtin.len_ ts t args) (Builtin.len_ ts t args) (fun _ => True) := by
  unfold Builtin.len_
  split
  · refine Sim.bind (underlying_sim _) fun u _ => ?_
    have ho : ∀ (r : Nat) (k : Obj → Sem Value), (∀ o, (Sim K (Program.mk T F1) (Program.mk T F2)) (k o) (k o) (fun _ => True)) → (∀ o o', Dim o o' → (∀ c e fr, o ≠ .cells c e fr) → (o = o' ∨ ∃ h, k o = .halt h ∧ PlainHalt h)) → (Sim K (Program.mk T F1) (Program.mk T F2)) ((Go.getObj r).bind k) ((Go.getObj r).bind k) (fun _ => True) := by
      intro r k hk hd
      refine Sim.getObj (fun o o' hdd _ hn => ?_)
      rcases hdd with ⟨_, rfl⟩ | ⟨_, hdd⟩
      · exact hk o
      rcases hd o o' hdd hn with rfl | ⟨h, hh, hp⟩
      · exact hk o
      · show (Sim K (Program.mk T F1) (Program.mk T F2)) (k o) (k o') _
        rw [hh]
        exact Sim.halt hp
    split
    · exact Sim.pure trivial
    · exact Sim.pure trivial
    · refine Sim.bind (underlying_sim _) fun u _ => ?_
      split
      · exact Sim.pure trivial
      · exact Sim.halt
    · exact Sim.pure trivial
    · exact Sim.pure trivial
    · exact Sim.pure trivial
    · refine ho _ _ (fun o => ?_) (fun o o' hd hn => ?_)
      · split
        · exact Sim.pure trivial
        · exact Sim.halt
      · cases hd <;> first | exact absurd rfl (hn _ _ _) | exact .inl rfl | exact .inr ⟨_, rfl, trivial⟩
    · refine ho _ _ (fun o => ?_) (fun o o' hd hn => ?_)
      · split
        · exact Sim.pure trivial
        · exact Sim.halt
      · cases hd <;> first | exact absurd rfl (hn _ _ _) | exact .inl rfl | exact .inr ⟨_, rfl, trivial⟩
    · exact Sim.halt
  · exact Sim.halt

theorem lenOf_sim (x : Value) : (Sim K (Program.mk T F1) (Program.mk T F2)) (Builtin.lenOf x) (Builtin.lenOf x) (fun _ => True) := by
  unfold Builtin.lenOf; split <;> first | exact Sim.pure trivial | exact Sim.halt
theorem firstCells_sim (s n : Nat) (x : Value) : (Sim K (Program.mk T F1) (Program.mk T F2)) (Builtin.firstCells s n x) (Builtin.firstCells s n x) (fun _ => True) := by
  unfold Builtin.firstCells; split <;> first | exact loadCells_sim _ _ | exact Sim.pure trivial | exact Sim.halt
theorem askRoom_sim (n : Nat) : (Sim K (Program.mk T F1) (Program.mk T F2)) (askRoom n) (askRoom n) (fun _ => True) := by
  unfold askRoom
  split
  · exact Sim.noRoom (Sim.pure trivial)
  · exact Sim.pure trivial

theorem holdsCells_calm (a : Addr) (n : Nat) : Calm K (Program.mk T F1) (Builtin.holdsCells a n) := by
  refine calm_bind (calm_shape _) fun s => ?_
  cases s <;> exact calm_pure _
theorem mayShare_calm (s l n : Nat) (b : Option Addr) (x : Value) : Calm K (Program.mk T F1) (Builtin.mayShare s l n b x) := by
  unfold Builtin.mayShare
  have rest : ∀ t : Bool, Calm K (Program.mk T F1) (if (!t) = true then Sem.pure true else match x with
      | .slice (some c) _ _ => (Builtin.holdsCells c (n * s)).bind fun h => Sem.pure (!h || b.any (·.block == c.block))
      | _ => Sem.pure false) := by
    intro t
    split
    · exact calm_pure _
    · split
      · exact calm_bind (holdsCells_calm _ _) fun _ => calm_pure _
      · exact calm_pure _
  cases b with
  | none => exact calm_bind (calm_pure _) rest
  | some a => exact calm_bind (holdsCells_calm _ _) fun _ => calm_bind (calm_frozen _) fun _ => calm_bind (calm_pure _) rest

set_option maxHeartbeats 4000000 in
theorem append_sim (ts : Array TypeId) (t : TypeId) (args : Array Value) : (Sim K (Program.mk T F1) (Program.mk T F2)) (Builtin.append_ ts t args) (Builtin.append_ ts t args) (fun _ => True) := by
  unfold Builtin.append_
  split
  · refine Sim.bind (underlying_sim _) fun u _ => ?_
    split
    · split
      · refine Sim.bind (sizeOf_sim _) fun z _ => ?_
        repeat (first
            | exact Sim.halt
            | exact runtimePanic_sim _
            | exact boundsPanic_sim _ _ _ _
            | exact goPanic_sim _
            | exact Sim.pure trivial
            | exact lenOf_sim _
            | exact firstCells_sim _ _ _
            | exact storeCells_sim _ _ _
            | exact askRoom_sim _
            | exact underlying_sim _
            | exact typeInfo_sim _
            | exact sizeOf_sim _
            | exact isAgg_sim _
            | exact zeroValue_sim _
            | exact asIntOf_sim _
            | exact asInt_sim _
            | exact asBool_sim _
            | exact asAgg_sim _
            | exact sureAddr_sim _
            | exact choose_sim _
            | exact newRow_sim _ _
            | exact newVar_sim _ _
            | exact asAddr_sim _
            | exact loadCells_sim _ _
            | exact loadVar_sim _ _
            | exact part_sim _ _ _
            | exact Sim.never (never_bind (mayShare_calm _ _ _ _ _) fun _ => never_ite (never_bind (calm_mark _) fun _ => never_halt _) (never_halt _))
            | exact Sim.never (never_bindL (never_panic _))
            | (refine Sim.bind (Ψ := fun _ => True) ?_ (fun _ _ => ?_))
            | (refine Sim.ite (fun _ => ?_) (fun _ => ?_))
            | split
            | (dsimp only))
      · exact Sim.halt
    · exact Sim.halt
  · exact Sim.halt

theorem getLoop_sim (l : Nat) : (Sim K (Program.mk T F1) (Program.mk T F2)) (Instr.getLoop l) (Instr.getLoop l) (fun r => tameObj (.loop r) ∧ ¬ K l) := by
  unfold Instr.getLoop
  refine Sim.getObj (fun o o' hd ht hn => ?_)
  dsimp only [Sem.bind, bind, pure]
  rcases hd with ⟨hk, rfl⟩ | ⟨_, hd⟩
  · cases o <;> first
      | exact Sim.pure ⟨ht, hk⟩
      | exact Sim.halt
  · cases hd with
    | empty => exact absurd rfl (hn _ _ _)
    | froz => exact absurd rfl (hn _ _ _)
    | keep o h => cases o <;> first | exact Sim.halt | (simp at h; done)
    | _ => exact Sim.halt

theorem newLoop_sim (r : Loop) (h : tameObj (.loop r)) : (Sim K (Program.mk T F1) (Program.mk T F2)) (newObj (.loop r)) (newObj (.loop r)) (fun _ => True) := Sim.new (o := .loop r) h fun _ _ => Sim.pure trivial
theorem setLoop_sim (l : Nat) (hl : ¬ K l) (r : Loop) (h : tameObj (.loop r)) : (Sim K (Program.mk T F1) (Program.mk T F2)) (setObj l (.loop r)) (setObj l (.loop r)) (fun _ => True) := Sim.setObj hl (o := .loop r) h (by simp) (Sim.pure trivial)

theorem enterLoop_sim (fn : FuncId) (tmps : Array Value) (params : Array Tmp) (assign body : Code) (around : Option Nat) (h : tameCode assign = true ∧ tameCode body = true) :
    (Sim K (Program.mk T F1) (Program.mk T F2)) (Instr.enterLoop fn tmps params assign body around) (Instr.enterLoop fn tmps params assign body around) (fun r => ∀ d ∈ r.2, ∃ b, d.target = .collected b) := by
  unfold Instr.enterLoop
  dsimp only
  split
  · exact Sim.bind (getLoop_sim _) fun _ _ => Sim.bind (Sim.pure (Φ := fun r => r.2 = []) rfl) fun r hr => Sim.bind (newLoop_sim _ ⟨h.1, h.2, fun _ e => by cases e⟩) fun _ _ => Sim.pure (by rw [hr]; simp)
  · exact Sim.bind (Sim.new (o := .deferred (some [])) trivial fun _ _ => Sim.pure (Φ := fun _ => True) trivial) fun b _ => Sim.bind (Sim.pure (Φ := fun r => r.2 = [{ target := .collected b, args := #[] }]) rfl) fun r hr => Sim.bind (newLoop_sim _ ⟨h.1, h.2, fun _ e => by cases e⟩) fun _ _ => Sim.pure (by rw [hr]; simp)

theorem yield_sim (l : Nat) (args : Array Value) : (Sim K (Program.mk T F1) (Program.mk T F2)) (Instr.yield l args) (Instr.yield l args) (fun r => ∃ l' f tmps a b, r = .round l' f tmps a b ∧ tameCode a = true ∧ tameCode b = true) := by
  unfold Instr.yield
  refine Sim.bind (getLoop_sim _) fun r hr => ?_
  dsimp only
  split
  · exact Sim.halt
  · exact Sim.pure ⟨_, _, _, _, _, rfl, hr.1.1, hr.1.2.1⟩

theorem beginRound_sim (l : Nat) : (Sim K (Program.mk T F1) (Program.mk T F2)) (Instr.beginRound l) (Instr.beginRound l) (fun _ => True) := by
  unfold Instr.beginRound
  refine Sim.bind (getLoop_sim _) fun r hr => Sim.bind (setLoop_sim _ hr.2 _ hr.1) fun _ _ => ?_
  split <;> first | exact Sim.pure trivial | exact runtimePanic_sim _

theorem endRound_sim (l : Nat) (j : Option Code) (hj : ∀ c, j = some c → tameCode c = true) : (Sim K (Program.mk T F1) (Program.mk T F2)) (Instr.endRound l j) (Instr.endRound l j) (fun _ => True) := by
  unfold Instr.endRound
  exact Sim.bind (getLoop_sim _) fun r hr => Sim.bind (setLoop_sim _ hr.2 _ ⟨hr.1.1, hr.1.2.1, hj⟩) fun _ _ => Sim.pure trivial

theorem endLoop_sim (l : Nat) : (Sim K (Program.mk T F1) (Program.mk T F2)) (Instr.endLoop l) (Instr.endLoop l) (fun j => ∀ c, j = some c → tameCode c = true) := by
  unfold Instr.endLoop
  refine Sim.bind (getLoop_sim _) fun r hr => ?_
  dsimp only
  refine Sim.ite (fun _ => Sim.never (never_bindL (never_panic _))) (fun _ => ?_)
  exact Sim.bind (setLoop_sim _ hr.2 _ hr.1) fun _ _ => Sim.pure hr.1.2.2

theorem takeDeferred_sim (b : Nat) : (Sim K (Program.mk T F1) (Program.mk T F2)) (Instr.takeDeferred b) (Instr.takeDeferred b) (fun r => r = []) := by
  unfold Instr.takeDeferred
  refine Sim.getObj (fun o o' hd ht hn => ?_)
  dsimp only [Sem.bind, bind, pure]
  rcases hd with ⟨hk, rfl⟩ | ⟨_, hd⟩
  · cases o with
    | deferred d =>
      cases d with
      | none => exact Sim.halt
      | some ds =>
        cases ds with
        | nil => exact Sim.bind (Sim.setObj hk (o := .deferred none) trivial (by simp) (Sim.pure (Φ := fun _ => True) trivial)) fun _ _ => Sim.pure rfl
        | cons x l => exact ht.elim
    | _ => exact Sim.halt
  · cases hd with
    | empty => exact absurd rfl (hn _ _ _)
    | froz => exact absurd rfl (hn _ _ _)
    | keep o h => cases o <;> first | exact Sim.halt | (simp at h; done)
    | _ => exact Sim.halt
end
end Go.Proofs.Ytpolipcicfjkiaa.Cy
