/- A whole range over a function, in company; what the others may do in a view, and what is asked of a step there. Conditions: none. -/
import Derived.Test.YtpolipcicfjkiaaK13
import Derived.Test.YtpolipcicfjkiaaChecked
import Derived.Laws.MakeOwn
import Derived.Below
import Derived.OwnWalk
import Derived.Conc.AppendWalk
import Derived.RowKit
import Derived.KernelRfl
import Derived.Laws.Small
import Derived.Laws.Cover1
namespace Go.Proofs.Ytpolipcicfjkiaa.Cy
open Go Go.Conc

section
variable {P : Program} {main : Bool} {R : World → World → Prop} {D : World → World → Array Event → Prop}

/-- The world behind the two blocks. -/
def W1 (b : Frame) (tm : Array Value) (ps : Array Tmp) (asg body : Code) (w : World) : World :=
  (w.alloc (.deferred (some []))).alloc (.loop { state := .ready, pending := none, fn := b.fn, tmps := tm, params := ps, assign := asg, body, defers := w.heap.size })

theorem goes_range (T : Terms R D) {b : Frame} {a : Act} {k : List Item} {cs : List Frame} {w : World} {g : Operand} {ps : Array Tmp} {asg body : Code} {gf : Nat} {lb : Array Value} {n m : Nat} {Stop : Goroutine → World → Prop}
    (hk : b.kind ≠ .early) (hg : a.eval g = .func (.func gf) #[] lb)
    (h : ∀ w₁, R w w₁ → D w₁ (W1 b a.tmps ps asg body w₁) #[] ∧ CallsC P main R D gf ((#[Value.func (.yield (w₁.heap.size + 1)) #[] #[]] : Array Value) ++ lb) n (W1 b a.tmps ps asg body w₁) (fun _ w' => ∀ w₂, R w' w₂ →
      ∃ r, w₂.heap[w₁.heap.size + 1]? = some (.loop r) ∧ r.state ≠ .busy ∧ r.pending = none ∧ D w₂ (w₂.putObj (w₁.heap.size + 1) (.loop { r with state := .exhausted })) (seen P b.fn ((Instr.endLoop (w₁.heap.size + 1)).events P w₂ #[])) ∧
        Goes P main R D Stop m (G (b.at ⟨a.tmps, { target := .collected w₁.heap.size, args := #[] } :: a.defers⟩ k) cs) (w₂.putObj (w₁.heap.size + 1) (.loop { r with state := .exhausted })))) :
    Goes P main R D Stop (m + n + 4) (G (b.at a (.code (.rangeFunc g ps asg body) :: k)) cs) w := by
  have hn : ∀ a' todo, b.at a' todo = ({ b with roundOf := none }).atR a' todo := fun _ _ => rfl
  have e : m + n + 4 = (m + 3 + n) + 1 := by omega
  rw [e]
  refine Goes.step rfl fun w₁ h₁ => ?_
  obtain ⟨hD, fn, c, hf, hname, hbody, hwp⟩ := h w₁ h₁
  rw [hn, stepR_range (by rfl) (by exact hk) hg hf hname hbody]
  refine ⟨hD, ?_⟩
  have hleave : ∀ (a' : Act) (w' : World) (todo : List Item), (a'.defers = [] ∧ ∃ v, ResultsC P fn a'.tmps v ∧ ∀ w₂, R w' w₂ →
      ∃ r, w₂.heap[w₁.heap.size + 1]? = some (.loop r) ∧ r.state ≠ .busy ∧ r.pending = none ∧ D w₂ (w₂.putObj (w₁.heap.size + 1) (.loop { r with state := .exhausted })) (seen P b.fn ((Instr.endLoop (w₁.heap.size + 1)).events P w₂ #[])) ∧
        Goes P main R D Stop m (G (b.at ⟨a.tmps, { target := .collected w₁.heap.size, args := #[] } :: a.defers⟩ k) cs) (w₂.putObj (w₁.heap.size + 1) (.loop { r with state := .exhausted }))) →
      Goes P main R D Stop (m + 1 + 1) (G { (Go.Conc.base gf).at a' todo with mode := .returning } (({ b with roundOf := none }).atR ⟨a.tmps, { target := .collected w₁.heap.size, args := #[] } :: a.defers⟩ (.inRangeFunc (w₁.heap.size + 1) :: k) :: cs)) w' := by
    rintro a' w' todo ⟨hd, v, hr, hp⟩
    refine Goes.step rfl fun w₃ h₃ => ?_
    rw [stepG_leave (b := Go.Conc.base gf) rfl hd hf (hr w₃).1 (hr w₃).2, finish_range]
    refine ⟨T.idle _, Goes.step rfl fun w₄ h₄ => ?_⟩
    obtain ⟨r, q1, q2, q3, q4, q5⟩ := hp w₄ (T.trans _ _ _ h₃ h₄)
    rw [stepR_endRange (by exact hk) q1 q2 q3]
    exact ⟨q4, q5⟩
  refine (hwp (Go.Conc.base gf) [] _ Stop (m + 3) rfl (by simp [Go.Conc.base]) fun e a' w' q => ?_)
  cases e with
  | normal => exact Goes.step rfl fun w₃ h₃ => by rw [stepG_end]; exact ⟨T.idle _, (hleave a' w' [] q).rely T.trans h₃⟩
  | ret => exact fun todo => (hleave a' w' todo q).more
  | exit id => exact q.elim
  | goto l => exact q.elim
  | panic ch => exact q.elim
  | outgrown => exact q.elim

/-- What was deferred in the rounds is nothing: on to what was deferred before. -/
theorem goes_collect {b : Frame} {a : Act} {todo : List Item} {cs : List Frame} {w : World} {Dk : Nat} {ds : List Deferred} {m : Nat} {Stop : Goroutine → World → Prop} (hk : b.kind ≠ .early)
    (h : ∀ w₁, R w w₁ → w₁.heap[Dk]? = some (.deferred (some [])) ∧ D w₁ (w₁.putObj Dk (.deferred none)) (seen P b.fn ((Instr.takeDeferred Dk).events P w₁ #[])) ∧ Goes P main R D Stop m (G { b.at ⟨a.tmps, ds⟩ todo with mode := .returning } cs) (w₁.putObj Dk (.deferred none))) :
    Goes P main R D Stop (m + 1) (G { b.at ⟨a.tmps, { target := .collected Dk, args := #[] } :: ds⟩ todo with mode := .returning } cs) w := by
  have hn : ∀ a' todo, ({ b.at a' todo with mode := .returning } : Frame) = { ({ b with roundOf := none }).atR a' todo with mode := .returning } := fun _ _ => rfl
  refine Goes.step rfl fun w₁ h₁ => ?_
  obtain ⟨h1, h2, h3⟩ := h w₁ h₁
  rw [hn, stepR_collect (by exact hk) h1]
  exact ⟨h2, h3⟩
end

/-! ### in a view -/
theorem env_terms : Terms Env DN :=
  ⟨fun a b c h k => Env.trans a b c h k, fun w => ⟨Own.refl _, fun e he => by simp at he⟩⟩

theorem dn_draw : LetsDraw DN := fun w => ⟨⟨Nat.le_refl _, fun _ _ => .inl rfl, fun b h1 h2 => absurd h2 (by have h1 : w.heap.size ≤ b := h1; show ¬ b < w.heap.size; omega)⟩, fun e he => by simp at he⟩

theorem env_at {V V₁ : World} (h : Env V V₁) {b : Nat} {o : Obj} (hb : V.heap[b]? = some o) : V₁.heap[b]? = some o := by
  rw [h.2.1 b (Array.getElem?_eq_some_iff.1 hb).1]; exact hb

theorem own_put {V : World} {l : Nat} {o o' : Obj} (h : V.heap[l]? = some o) (hl : Like o o') : Own V (V.putObj l o') := by
  have hlt := (Array.getElem?_eq_some_iff.1 h).1
  refine ⟨by simp [World.putObj], fun b hb => ?_, fun b h1 h2 => absurd h2 (by simp [World.putObj]; omega)⟩
  by_cases e : b = l
  · subst e
    exact .inr ⟨o, o', h, World.putObj_heap_same hlt, hl⟩
  · exact .inl (World.putObj_heap_other e)

/-- A step at a loop's record. -/
theorem dn_loop {P : Program} {fn : FuncId} {V : World} {l : Nat} {r r' : Loop} {es : Array Event} (h : V.heap[l]? = some (.loop r)) (hes : ∀ e ∈ es, e.loc = .obj l) : DN V (V.putObj l (.loop r')) (seen P fn es) := by
  refine ⟨own_put h (.loop _ _), fun e he x hx => ?_⟩
  have := hes e (mem_seen he)
  rw [hx] at this
  cases this
  exact ⟨_, World.putObj_heap_same (Array.getElem?_eq_some_iff.1 h).1, .inl ⟨_, rfl⟩⟩

theorem ev_getLoop {P : Program} {w : World} {l : Nat} {r : Loop} (h : w.heap[l]? = some (.loop r)) (es : Array Event) : (Instr.getLoop l).events P w es = es.push ⟨.obj l, false, false⟩ := by
  simp [Instr.getLoop, getObj, bind, Sem.bind, pure, Sem.events, Sem.runT, h, Obj.isChan, -Sem.runT_eq]
theorem run_getLoop' {P : Program} {w : World} {l : Nat} {r : Loop} (h : w.heap[l]? = some (.loop r)) : (Instr.getLoop l).run P w = .ok r w := by
  simp [Instr.getLoop, getObj, bind, Sem.bind, pure, Sem.run, h]
theorem ev_setLoop {P : Program} {w : World} {l : Nat} {r r' : Loop} (h : w.heap[l]? = some (.loop r)) (es : Array Event) : (setObj l (.loop r')).events P w es = es.push ⟨.obj l, true, false⟩ := by
  simp [setObj, Sem.events, Sem.runT, h, Obj.isChan, -Sem.runT_eq]
theorem run_setLoop' {P : Program} {w : World} {l : Nat} {o : Obj} {r : Loop} (h : w.heap[l]? = some (.loop r)) : (setObj l o).run P w = .ok () (w.putObj l o) := by
  simp [setObj, Sem.run, h, World.putObj]

theorem ev_yield {P : Program} {w : World} {l : Nat} {r : Loop} {args : Array Value} (h : w.heap[l]? = some (.loop r)) (hs : args.size = r.params.size) : ∀ e ∈ (Instr.yield l args).events P w #[], e.loc = .obj l := by
  intro e he
  simp [Instr.yield, Sem.events_bind, ev_getLoop h, run_getLoop' h, hs] at he
  rw [he]
theorem ev_begin {P : Program} {w : World} {l : Nat} {r : Loop} (h : w.heap[l]? = some (.loop r)) (hr : r.state = .ready) : ∀ e ∈ (Instr.beginRound l).events P w #[], e.loc = .obj l := by
  intro e he
  simp [Instr.beginRound, Sem.events_bind, ev_getLoop h, run_getLoop' h, ev_setLoop h, run_setLoop' h, hr] at he
  rcases he with rfl | rfl <;> rfl
theorem ev_end {P : Program} {w : World} {l : Nat} {r : Loop} (h : w.heap[l]? = some (.loop r)) : ∀ e ∈ (Instr.endRound l none).events P w #[], e.loc = .obj l := by
  intro e he
  simp [Instr.endRound, Sem.events_bind, ev_getLoop h, run_getLoop' h, ev_setLoop h] at he
  rcases he with rfl | rfl <;> rfl
theorem ev_endLoop {P : Program} {w : World} {l : Nat} {r : Loop} (h : w.heap[l]? = some (.loop r)) (hr : r.state ≠ .busy) : ∀ e ∈ (Instr.endLoop l).events P w #[], e.loc = .obj l := by
  intro e he
  simp [Instr.endLoop, Sem.events_bind, ev_getLoop h, run_getLoop' h, ev_setLoop h, hr] at he
  rcases he with rfl | rfl <;> rfl
theorem ev_take {P : Program} {w : World} {l : Nat} (h : w.heap[l]? = some (.deferred (some []))) : ∀ e ∈ (Instr.takeDeferred l).events P w #[], e.loc = .obj l := by
  intro e he
  simp [Instr.takeDeferred, getObj, setObj, bind, Sem.bind, pure, Sem.events, Sem.runT, h, Obj.isChan, -Sem.runT_eq] at he
  rcases he with rfl | rfl <;> rfl

theorem dn_take {P : Program} {fn : FuncId} {V : World} {l : Nat} {es : Array Event} (h : V.heap[l]? = some (.deferred (some []))) (hes : ∀ e ∈ es, e.loc = .obj l) : DN V (V.putObj l (.deferred none)) (seen P fn es) := by
  refine ⟨own_put h (.deferred _ _), fun e he x hx => ?_⟩
  have := hes e (mem_seen he)
  rw [hx] at this
  cases this
  exact ⟨_, World.putObj_heap_same (Array.getElem?_eq_some_iff.1 h).1, .inr ⟨_, rfl⟩⟩

theorem dn_yield {P : Program} {fn : FuncId} {V : World} {l : Nat} {r : Loop} {es : Array Event} (h : V.heap[l]? = some (.loop r)) (hes : ∀ e ∈ es, e.loc = .obj l) : DN V V (seen P fn es) := by
  refine ⟨Own.refl _, fun e he x hx => ?_⟩
  have := hes e (mem_seen he)
  rw [hx] at this
  cases this
  exact ⟨_, h, .inl ⟨_, rfl⟩⟩

theorem own_trans {V V₁ V₂ : World} (h : Own V V₁) (k : Own V₁ V₂) : Own V V₂ := by
  have lt : ∀ {x y : Obj}, Like x y → ∀ {z}, Like y z → Like x z := fun h _ k => by cases h <;> cases k <;> constructor
  have rf : ∀ {x y : Obj}, Like x y → Like x x ∧ Like y y := fun h => by cases h <;> exact ⟨by constructor, by constructor⟩
  refine ⟨Nat.le_trans h.size k.size, fun b hb => ?_, fun b h1 h2 => ?_⟩
  · have hs := h.size
    rcases h.old b hb with e | ⟨o, o', e1, e2, e3⟩
    · rcases k.old b (by omega) with e' | ⟨o2, o3, e1', e2', e3'⟩
      · exact .inl (e'.trans e)
      · exact .inr ⟨o2, o3, by rw [← e]; exact e1', e2', e3'⟩
    · rcases k.old b (by omega) with e' | ⟨o2, o3, e1', e2', e3'⟩
      · exact .inr ⟨o, o', e1, e'.trans e2, e3⟩
      · rw [e2] at e1'
        cases e1'
        exact .inr ⟨o, o3, e1, e2', lt e3 e3'⟩
  · by_cases hb : b < V₁.heap.size
    · obtain ⟨o, e1, e2⟩ := h.new b h1 hb
      rcases k.old b hb with e' | ⟨o2, o3, e1', e2', e3'⟩
      · exact ⟨o, e'.trans e1, e2⟩
      · exact ⟨o3, e2', (rf e3').2⟩
    · exact k.new b (by omega) h2

theorem own_alloc {V : World} {o : Obj} (h : Like o o) : Own V (V.alloc o) := by
  refine ⟨by simp, fun b hb => .inl ?_, fun b h1 h2 => ⟨o, ?_, h⟩⟩
  · simp only [World.alloc]
    rw [Array.getElem?_push_lt hb]
    exact (Array.getElem?_eq_getElem hb).symm
  · have : b = V.heap.size := by simp at h2; omega
    subst this
    exact World.alloc_heap_new V o

theorem dn_W1 (b : Frame) (tm : Array Value) (ps : Array Tmp) (asg body : Code) (V : World) : DN V (W1 b tm ps asg body V) #[] :=
  ⟨own_trans (own_alloc (.deferred _ _)) (own_alloc (.loop _ _)), fun e he => by simp at he⟩

/-- A step that touches cells alone, and turns blocks of cells alone, and lays such. -/
theorem dn_cells {V V' : World} {es : Array Event} (h : Own V V') (he : ∀ e ∈ es, ∀ r, e.loc ≠ .obj r) : DN V V' es := ⟨h, fun e h1 r h2 => absurd h2 (he e h1 r)⟩

theorem own_setCell {V : World} {ad : Addr} {v : Value} {c : Array Value} {e : TypeId} {fr : Nat × Nat} (h : V.heap[ad.block]? = some (.cells c e fr)) : Own V (V.setCell ad v) := by
  have hs : (V.setCell ad v).heap.size = V.heap.size := by unfold World.setCell; simp
  refine ⟨by rw [hs]; exact Nat.le_refl _, fun b hb => ?_, fun b h1 h2 => absurd h2 (by rw [hs]; omega)⟩
  by_cases hb' : b = ad.block
  · subst hb'
    have hl := (Array.getElem?_eq_some_iff.1 h).1
    have : ∃ c', (V.setCell ad v).heap[ad.block]? = some (.cells c' e fr) := by
      unfold World.setCell
      simp only [Array.getElem?_modify, if_true]
      rw [h]
      simp only [Option.map_some]
      split <;> exact ⟨_, rfl⟩
    obtain ⟨c', h2⟩ := this
    exact .inr ⟨_, _, h, h2, .cells _ _ _ _⟩
  · exact .inl (setCell_ne V ad v hb')
end Go.Proofs.Ytpolipcicfjkiaa.Cy
/- The program in which the loud functions are shut. Conditions: none. -/
namespace Go.Proofs.Ytpolipcicfjkiaa.PA
open Go Go.Proofs Go.Proofs.Ytpolipcicfjkiaa.Cy

def loud (i : Nat) : Bool := [0, 1, 28, 46, 47, 48, 50, 59, 60, 61, 62, 63, 64, 67, 70, 71, 75, 76, 78, 79, 82, 83, 84, 85, 86, 93, 94, 95, 96, 97, 98, 99, 100, 101, 102, 103, 104, 105, 106, 107, 108].contains i
def shut (x : Func) : Func := { x with body := none, name := "shut", origin := "" }
def put (i : Nat) (x : Func) : Func := if loud i then shut x else x
noncomputable def funcs : Array Func := Try.funcs.mapIdx put
noncomputable def prog : Program := { toTables := Try.progTables, funcs := PA.funcs }

theorem get (i : Nat) : prog.funcs[i]? = (Try.prog.funcs[i]?).map (put i) := by
  show (Try.funcs.mapIdx put)[i]? = _
  rw [Array.getElem?_mapIdx]
  rfl

theorem func0 : prog.funcs[0]? = some (shut Try.f0) := by rw [get, Try.func0]; rfl
theorem func1 : prog.funcs[1]? = some (shut Try.f1) := by rw [get, Try.func1]; rfl
theorem func2 : prog.funcs[2]? = some Try.f2 := by rw [get, Try.func2]; rfl
theorem func3 : prog.funcs[3]? = some Try.f3 := by rw [get, Try.func3]; rfl
theorem func4 : prog.funcs[4]? = some Try.f4 := by rw [get, Try.func4]; rfl
theorem func5 : prog.funcs[5]? = some Try.f5 := by rw [get, Try.func5]; rfl
theorem func6 : prog.funcs[6]? = some Try.f6 := by rw [get, Try.func6]; rfl
theorem func7 : prog.funcs[7]? = some Try.f7 := by rw [get, Try.func7]; rfl
theorem func8 : prog.funcs[8]? = some Try.f8 := by rw [get, Try.func8]; rfl
theorem func9 : prog.funcs[9]? = some Try.f9 := by rw [get, Try.func9]; rfl
theorem func10 : prog.funcs[10]? = some Try.f10 := by rw [get, Try.func10]; rfl
theorem func11 : prog.funcs[11]? = some Try.f11 := by rw [get, Try.func11]; rfl
theorem func12 : prog.funcs[12]? = some Try.f12 := by rw [get, Try.func12]; rfl
theorem func13 : prog.funcs[13]? = some Try.f13 := by rw [get, Try.func13]; rfl
theorem func14 : prog.funcs[14]? = some Try.f14 := by rw [get, Try.func14]; rfl
theorem func15 : prog.funcs[15]? = some Try.f15 := by rw [get, Try.func15]; rfl
theorem func16 : prog.funcs[16]? = some Try.f16 := by rw [get, Try.func16]; rfl
theorem func17 : prog.funcs[17]? = some Try.f17 := by rw [get, Try.func17]; rfl
theorem func18 : prog.funcs[18]? = some Try.f18 := by rw [get, Try.func18]; rfl
theorem func19 : prog.funcs[19]? = some Try.f19 := by rw [get, Try.func19]; rfl
theorem func20 : prog.funcs[20]? = some Try.f20 := by rw [get, Try.func20]; rfl
theorem func21 : prog.funcs[21]? = some Try.f21 := by rw [get, Try.func21]; rfl
theorem func22 : prog.funcs[22]? = some Try.f22 := by rw [get, Try.func22]; rfl
theorem func23 : prog.funcs[23]? = some Try.f23 := by rw [get, Try.func23]; rfl
theorem func24 : prog.funcs[24]? = some Try.f24 := by rw [get, Try.func24]; rfl
theorem func25 : prog.funcs[25]? = some Try.f25 := by rw [get, Try.func25]; rfl
theorem func26 : prog.funcs[26]? = some Try.f26 := by rw [get, Try.func26]; rfl
theorem func27 : prog.funcs[27]? = some Try.f27 := by rw [get, Try.func27]; rfl
theorem func28 : prog.funcs[28]? = some (shut Try.f28) := by rw [get, Try.func28]; rfl
theorem func29 : prog.funcs[29]? = some Try.f29 := by rw [get, Try.func29]; rfl
theorem func30 : prog.funcs[30]? = some Try.f30 := by rw [get, Try.func30]; rfl
theorem func31 : prog.funcs[31]? = some Try.f31 := by rw [get, Try.func31]; rfl
theorem func32 : prog.funcs[32]? = some Try.f32 := by rw [get, Try.func32]; rfl
theorem func33 : prog.funcs[33]? = some Try.f33 := by rw [get, Try.func33]; rfl
theorem func34 : prog.funcs[34]? = some Try.f34 := by rw [get, Try.func34]; rfl
theorem func35 : prog.funcs[35]? = some Try.f35 := by rw [get, Try.func35]; rfl
theorem func36 : prog.funcs[36]? = some Try.f36 := by rw [get, Try.func36]; rfl
theorem func37 : prog.funcs[37]? = some Try.f37 := by rw [get, Try.func37]; rfl
theorem func38 : prog.funcs[38]? = some Try.f38 := by rw [get, Try.func38]; rfl
theorem func39 : prog.funcs[39]? = some Try.f39 := by rw [get, Try.func39]; rfl
theorem func40 : prog.funcs[40]? = some Try.f40 := by rw [get, Try.func40]; rfl
theorem func41 : prog.funcs[41]? = some Try.f41 := by rw [get, Try.func41]; rfl
theorem func42 : prog.funcs[42]? = some Try.f42 := by rw [get, Try.func42]; rfl
theorem func43 : prog.funcs[43]? = some Try.f43 := by rw [get, Try.func43]; rfl
theorem func44 : prog.funcs[44]? = some Try.f44 := by rw [get, Try.func44]; rfl
theorem func45 : prog.funcs[45]? = some Try.f45 := by rw [get, Try.func45]; rfl
theorem func46 : prog.funcs[46]? = some (shut Try.f46) := by rw [get, Try.func46]; rfl
theorem func47 : prog.funcs[47]? = some (shut Try.f47) := by rw [get, Try.func47]; rfl
theorem func48 : prog.funcs[48]? = some (shut Try.f48) := by rw [get, Try.func48]; rfl
theorem func49 : prog.funcs[49]? = some Try.f49 := by rw [get, Try.func49]; rfl
theorem func50 : prog.funcs[50]? = some (shut Try.f50) := by rw [get, Try.func50]; rfl
theorem func51 : prog.funcs[51]? = some Try.f51 := by rw [get, Try.func51]; rfl
theorem func52 : prog.funcs[52]? = some Try.f52 := by rw [get, Try.func52]; rfl
theorem func53 : prog.funcs[53]? = some Try.f53 := by rw [get, Try.func53]; rfl
theorem func54 : prog.funcs[54]? = some Try.f54 := by rw [get, Try.func54]; rfl
theorem func55 : prog.funcs[55]? = some Try.f55 := by rw [get, Try.func55]; rfl
theorem func56 : prog.funcs[56]? = some Try.f56 := by rw [get, Try.func56]; rfl
theorem func57 : prog.funcs[57]? = some Try.f57 := by rw [get, Try.func57]; rfl
theorem func58 : prog.funcs[58]? = some Try.f58 := by rw [get, Try.func58]; rfl
theorem func59 : prog.funcs[59]? = some (shut Try.f59) := by rw [get, Try.func59]; rfl
theorem func60 : prog.funcs[60]? = some (shut Try.f60) := by rw [get, Try.func60]; rfl
theorem func61 : prog.funcs[61]? = some (shut Try.f61) := by rw [get, Try.func61]; rfl
theorem func62 : prog.funcs[62]? = some (shut Try.f62) := by rw [get, Try.func62]; rfl
theorem func63 : prog.funcs[63]? = some (shut Try.f63) := by rw [get, Try.func63]; rfl
theorem func64 : prog.funcs[64]? = some (shut Try.f64) := by rw [get, Try.func64]; rfl
theorem func65 : prog.funcs[65]? = some Try.f65 := by rw [get, Try.func65]; rfl
theorem func66 : prog.funcs[66]? = some Try.f66 := by rw [get, Try.func66]; rfl
theorem func67 : prog.funcs[67]? = some (shut Try.f67) := by rw [get, Try.func67]; rfl
theorem func68 : prog.funcs[68]? = some Try.f68 := by rw [get, Try.func68]; rfl
theorem func69 : prog.funcs[69]? = some Try.f69 := by rw [get, Try.func69]; rfl
theorem func70 : prog.funcs[70]? = some (shut Try.f70) := by rw [get, Try.func70]; rfl
theorem func71 : prog.funcs[71]? = some (shut Try.f71) := by rw [get, Try.func71]; rfl
theorem func72 : prog.funcs[72]? = some Try.f72 := by rw [get, Try.func72]; rfl
theorem func73 : prog.funcs[73]? = some Try.f73 := by rw [get, Try.func73]; rfl
theorem func74 : prog.funcs[74]? = some Try.f74 := by rw [get, Try.func74]; rfl
theorem func75 : prog.funcs[75]? = some (shut Try.f75) := by rw [get, Try.func75]; rfl
theorem func76 : prog.funcs[76]? = some (shut Try.f76) := by rw [get, Try.func76]; rfl
theorem func77 : prog.funcs[77]? = some Try.f77 := by rw [get, Try.func77]; rfl
theorem func78 : prog.funcs[78]? = some (shut Try.f78) := by rw [get, Try.func78]; rfl
theorem func79 : prog.funcs[79]? = some (shut Try.f79) := by rw [get, Try.func79]; rfl
theorem func80 : prog.funcs[80]? = some Try.f80 := by rw [get, Try.func80]; rfl
theorem func81 : prog.funcs[81]? = some Try.f81 := by rw [get, Try.func81]; rfl
theorem func82 : prog.funcs[82]? = some (shut Try.f82) := by rw [get, Try.func82]; rfl
theorem func83 : prog.funcs[83]? = some (shut Try.f83) := by rw [get, Try.func83]; rfl
theorem func84 : prog.funcs[84]? = some (shut Try.f84) := by rw [get, Try.func84]; rfl
theorem func85 : prog.funcs[85]? = some (shut Try.f85) := by rw [get, Try.func85]; rfl
theorem func86 : prog.funcs[86]? = some (shut Try.f86) := by rw [get, Try.func86]; rfl
theorem func87 : prog.funcs[87]? = some Try.f87 := by rw [get, Try.func87]; rfl
theorem func88 : prog.funcs[88]? = some Try.f88 := by rw [get, Try.func88]; rfl
theorem func89 : prog.funcs[89]? = some Try.f89 := by rw [get, Try.func89]; rfl
theorem func90 : prog.funcs[90]? = some Try.f90 := by rw [get, Try.func90]; rfl
theorem func91 : prog.funcs[91]? = some Try.f91 := by rw [get, Try.func91]; rfl
theorem func92 : prog.funcs[92]? = some Try.f92 := by rw [get, Try.func92]; rfl
theorem func93 : prog.funcs[93]? = some (shut Try.f93) := by rw [get, Try.func93]; rfl
theorem func94 : prog.funcs[94]? = some (shut Try.f94) := by rw [get, Try.func94]; rfl
theorem func95 : prog.funcs[95]? = some (shut Try.f95) := by rw [get, Try.func95]; rfl
theorem func96 : prog.funcs[96]? = some (shut Try.f96) := by rw [get, Try.func96]; rfl
theorem func97 : prog.funcs[97]? = some (shut Try.f97) := by rw [get, Try.func97]; rfl
theorem func98 : prog.funcs[98]? = some (shut Try.f98) := by rw [get, Try.func98]; rfl
theorem func99 : prog.funcs[99]? = some (shut Try.f99) := by rw [get, Try.func99]; rfl
theorem func100 : prog.funcs[100]? = some (shut Try.f100) := by rw [get, Try.func100]; rfl
theorem func101 : prog.funcs[101]? = some (shut Try.f101) := by rw [get, Try.func101]; rfl
theorem func102 : prog.funcs[102]? = some (shut Try.f102) := by rw [get, Try.func102]; rfl
theorem func103 : prog.funcs[103]? = some (shut Try.f103) := by rw [get, Try.func103]; rfl
theorem func104 : prog.funcs[104]? = some (shut Try.f104) := by rw [get, Try.func104]; rfl
theorem func105 : prog.funcs[105]? = some (shut Try.f105) := by rw [get, Try.func105]; rfl
theorem func106 : prog.funcs[106]? = some (shut Try.f106) := by rw [get, Try.func106]; rfl
theorem func107 : prog.funcs[107]? = some (shut Try.f107) := by rw [get, Try.func107]; rfl
theorem func108 : prog.funcs[108]? = some (shut Try.f108) := by rw [get, Try.func108]; rfl
attribute [simp] func0 func1 func2 func3 func4 func5 func6 func7 func8 func9 func10 func11 func12 func13 func14 func15 func16 func17 func18 func19 func20 func21 func22 func23 func24 func25 func26 func27 func28 func29
attribute [simp] func30 func31 func32 func33 func34 func35 func36 func37 func38 func39 func40 func41 func42 func43 func44 func45 func46 func47 func48 func49 func50 func51 func52 func53 func54 func55 func56 func57 func58 func59
attribute [simp] func60 func61 func62 func63 func64 func65 func66 func67 func68 func69 func70 func71 func72 func73 func74 func75 func76 func77 func78 func79 func80 func81 func82 func83 func84 func85 func86 func87 func88 func89
attribute [simp] func90 func91 func92 func93 func94 func95 func96 func97 func98 func99 func100 func101 func102 func103 func104 func105 func106 func107 func108

theorem quiet_all : ((List.range Try.funcs.size).all fun i => loud i || match Try.funcs[i]? with | some x => !(x.name == "runtime.NumGoroutine") && (match x.body with | some c => tameCode c | none => false) | none => false) = true := by decide +kernel

instance : FlatEqs Try.progTables := ⟨⟨fun t h => by
  have h : t ∈ [3, 4, 22, 30, 34] := by simpa [Eqs.E] using h
  simp only [List.mem_cons, List.not_mem_nil, or_false] at h
  rcases h with rfl | rfl | rfl | rfl | rfl <;> decide +kernel⟩⟩

theorem no_find (x : Func) : Extern.find (shut x) = none := by
  have h1 : Extern.allGenericRows.lookup "shut" = none := Option.isNone_iff_eq_none.1 (by decide +kernel)
  have h2 : Extern.allTypedRows.lookup "shut" = none := Option.isNone_iff_eq_none.1 (by decide +kernel)
  have h3 : Extern.allRows.lookup "shut" = none := Option.isNone_iff_eq_none.1 (by decide +kernel)
  have g1 : Extern.allGenericRows.lookup "" = none := Option.isNone_iff_eq_none.1 (by decide +kernel)
  have g2 : Extern.allTypedRows.lookup "" = none := Option.isNone_iff_eq_none.1 (by decide +kernel)
  have g3 : Extern.allRows.lookup "" = none := Option.isNone_iff_eq_none.1 (by decide +kernel)
  unfold Extern.find shut
  simp [h1, h2, h3, g1, g2, g3]
theorem no_next (x : Func) : Extern.findNext (shut x) = none := by
  have h1 : Extern.allNextRows.lookup "shut" = none := Option.isNone_iff_eq_none.1 (by decide +kernel)
  have g1 : Extern.allNextRows.lookup "" = none := Option.isNone_iff_eq_none.1 (by decide +kernel)
  unfold Extern.findNext shut
  simp [h1, g1]
theorem shut_fn (x : Func) : ShutFn (shut x) := ⟨by show ("shut" == "runtime.NumGoroutine") = false; decide +kernel, rfl, no_next x, no_find x, by show ("shut" : String).endsWith ".init" = false; decide +kernel⟩

theorem shuts : Shut' PA.funcs Try.funcs where
  fn := fun f x h => by
    have h : (Try.funcs[f]?).map (put f) = some x := by rw [← h]; exact (get f).symm
    obtain ⟨y, hy, rfl⟩ := Option.map_eq_some_iff.1 h
    unfold put
    by_cases hl : loud f = true
    · rw [if_pos hl]; exact .inr (shut_fn y)
    · rw [if_neg hl]
      have hlt : f < Try.funcs.size := (Array.getElem?_eq_some_iff.1 hy).1
      have hq := List.all_eq_true.1 quiet_all f (List.mem_range.2 hlt)
      rw [hy] at hq
      simp [hl] at hq
      obtain ⟨h1, h2⟩ := hq
      cases hb : y.body with
      | none => rw [hb] at h2; cases h2
      | some c => rw [hb] at h2; exact .inl ⟨hy, by simpa using h1, c, rfl, h2⟩
  size := by show (Try.funcs.mapIdx put).size = _; simp
  norace := fun f => by
    have e : PA.funcs[f]? = (Try.funcs[f]?).map (put f) := get f
    rw [e]
    cases Try.funcs[f]? with
    | none => rfl
    | some y => simp only [Option.map_some, Option.any_some]; unfold put; split <;> rfl

/-! ### the tables are the program's own -/
section
variable (T : Tables) (F G : Array Func)
theorem gen_types : (Program.mk T F).types = (Program.mk T G).types := rfl
theorem gen_und (t : TypeId) : (Program.mk T F).underlying t = (Program.mk T G).underlying t := rfl
theorem gen_rund (t : TypeId) (w : World) : (underlying t).run (Program.mk T F) w = (underlying t).run (Program.mk T G) w := by
  simp only [underlying, Sem.run_bind, run_program, Result.andThen, gen_und T F G]
  split <;> rfl
theorem gen_info (t : TypeId) (w : World) : (typeInfo t).run (Program.mk T F) w = (typeInfo t).run (Program.mk T G) w := by
  simp only [typeInfo, Sem.run_bind, run_program, Result.andThen]
  split <;> rfl
theorem gen_size (t : TypeId) (w : World) : (Go.sizeOf t).run (Program.mk T F) w = (Go.sizeOf t).run (Program.mk T G) w := by
  simp only [Go.sizeOf, Sem.run_bind, gen_info T F G]
  cases (typeInfo t).run (Program.mk T G) w <;> simp only [Result.andThen, Sem.run_pure]
theorem gen_agg (t : TypeId) (w : World) : (isAgg t).run (Program.mk T F) w = (isAgg t).run (Program.mk T G) w := by
  simp only [isAgg, Sem.run_bind, gen_rund T F G]
  cases (underlying t).run (Program.mk T G) w with
  | ok d w => simp only [Result.andThen]; split <;> simp only [Sem.run_pure]
  | halt _ _ => simp only [Result.andThen]
theorem gen_zero (t : TypeId) (w : World) : (zeroValue t).run (Program.mk T F) w = (zeroValue t).run (Program.mk T G) w := by
  simp only [zeroValue, Sem.run_bind, gen_info T F G]
  cases (typeInfo t).run (Program.mk T G) w with
  | ok d w => simp only [Result.andThen]; cases d.zero <;> simp [Sem.run_pure, unsupported]
  | halt _ _ => simp only [Result.andThen]
end
theorem prog_mk : prog = Program.mk Try.progTables PA.funcs := by unfold prog; rfl
theorem try_mk : Try.prog = Program.mk Try.progTables Try.funcs := rfl
theorem types_eq : prog.types = Try.prog.types := by rw [prog_mk, try_mk]
theorem underlying_eq (t : TypeId) : prog.underlying t = Try.prog.underlying t := by rw [prog_mk, try_mk]; exact gen_und _ _ _ t
theorem run_underlying_eq (t : TypeId) (w : World) : (underlying t).run prog w = (underlying t).run Try.prog w := by rw [prog_mk, try_mk]; exact gen_rund _ _ _ t w
theorem run_typeInfo_eq (t : TypeId) (w : World) : (typeInfo t).run prog w = (typeInfo t).run Try.prog w := by rw [prog_mk, try_mk]; exact gen_info _ _ _ t w
theorem run_sizeOf_eq (t : TypeId) (w : World) : (Go.sizeOf t).run prog w = (Go.sizeOf t).run Try.prog w := by rw [prog_mk, try_mk]; exact gen_size _ _ _ t w
theorem run_isAgg_eq (t : TypeId) (w : World) : (isAgg t).run prog w = (isAgg t).run Try.prog w := by rw [prog_mk, try_mk]; exact gen_agg _ _ _ t w
theorem run_zeroValue_eq (t : TypeId) (w : World) : (zeroValue t).run prog w = (zeroValue t).run Try.prog w := by rw [prog_mk, try_mk]; exact gen_zero _ _ _ t w
attribute [simp] types_eq underlying_eq run_underlying_eq run_typeInfo_eq run_sizeOf_eq run_isAgg_eq run_zeroValue_eq
end Go.Proofs.Ytpolipcicfjkiaa.PA
/- The library's functions under this program's numbers. Conditions: none. -/
namespace Go.Proofs.Ytpolipcicfjkiaa.Cy
open Go Go.Proofs
abbrev link : Go.Conc.Lib.WgLink := { add := 46, done := 48, wait := 50, relMerge := 59, disable := 60, enable := 61, inBubble := 62, associate := 63, fatal := 64, uOr := 65, uAdd := 66, raceRead := 67, uLoad := 68, uStore := 69, disassociate := 70, semrelease := 71, acquire := 75, isAssociated := 76, uCas := 77, raceWrite := 78, semacquire := 79, orU64 := 82, addU64 := 83, loadU64 := 84, storeU64 := 85, casU64 := 86, tWgP := 105, tUP := 107, tAssoc := 108, tWg := 87, tAU := 84, tU64 := 82, tUint := 112, tU32 := 85, tPU32 := 113, tPAU := 125, tPU64 := 127, tNoCopy := 79, tANoCopy := 80, tAlign64 := 81 }
theorem wgLib : Go.Conc.Lib.WgLib Try.prog link :=
  ⟨Try.func46, Try.func48, Try.func50, Try.func59, Try.func60, Try.func61, Try.func62, Try.func63, Try.func64, Try.func65, Try.func66, Try.func67, Try.func68, Try.func69, Try.func70, Try.func71, Try.func75, Try.func76, Try.func77, Try.func78, Try.func79, Try.func82, Try.func83, Try.func84, Try.func85, Try.func86, Try.underlying105, Try.runUnderlying105, Try.sizeOf105, Try.isAgg105, Try.zeroValue105, Try.underlying107, Try.runUnderlying107, Try.sizeOf107, Try.isAgg107, Try.zeroValue107, Try.underlying108, Try.runUnderlying108, Try.sizeOf108, Try.isAgg108, Try.zeroValue108, Try.underlying87, Try.runUnderlying87, Try.sizeOf87, Try.isAgg87, Try.zeroValue87, Try.underlying84, Try.runUnderlying84, Try.sizeOf84, Try.isAgg84, Try.zeroValue84, Try.underlying82, Try.runUnderlying82, Try.sizeOf82, Try.isAgg82, Try.zeroValue82, Try.underlying112, Try.runUnderlying112, Try.sizeOf112, Try.isAgg112, Try.zeroValue112, Try.underlying85, Try.runUnderlying85, Try.sizeOf85, Try.isAgg85, Try.zeroValue85, Try.underlying113, Try.runUnderlying113, Try.sizeOf113, Try.isAgg113, Try.zeroValue113, Try.underlying125, Try.runUnderlying125, Try.sizeOf125, Try.isAgg125, Try.zeroValue125, Try.underlying127, Try.runUnderlying127, Try.sizeOf127, Try.isAgg127, Try.zeroValue127, Try.underlying0, Try.runUnderlying0, Try.sizeOf0, Try.isAgg0, Try.zeroValue0, Try.underlying3, Try.runUnderlying3, Try.sizeOf3, Try.isAgg3, Try.zeroValue3, Try.underlying4, Try.runUnderlying4, Try.sizeOf4, Try.isAgg4, Try.zeroValue4, Try.underlying9, Try.runUnderlying9, Try.sizeOf9, Try.isAgg9, Try.zeroValue9, Try.underlying20, Try.runUnderlying20, Try.sizeOf20, Try.isAgg20, Try.zeroValue20, Try.underlying21, Try.runUnderlying21, Try.sizeOf21, Try.isAgg21, Try.zeroValue21, (by kernel_rfl), (by kernel_rfl)⟩
end Go.Proofs.Ytpolipcicfjkiaa.Cy
/- The workers' small functions, in company, in the view. Conditions: none. -/
namespace Go.Proofs.Ytpolipcicfjkiaa.Cy
open Go Go.Conc Go.RowKit Go.Proofs

/-- The year's box and one day's forecast. -/
structure HY (yb db o n cap i : Nat) (off : Nat) (lo : Int) (w : World) : Prop where
  c0 : w.cell? ⟨yb, 2, none⟩ = some (.slice (some ⟨db, o, none⟩) n cap)
  c1 : w.cell? ⟨db, o + i * 3 + off, none⟩ = some (.int .i64 lo)

theorem env_cell {V V₁ : World} (h : Env V V₁) {a : Addr} {v : Value} (hc : V.cell? a = some v) : V₁.cell? a = some v := by
  unfold World.cell? at hc ⊢
  cases hb : V.heap[a.block]? with
  | none => rw [hb] at hc; simp at hc
  | some o => rw [env_at h hb]; rw [hb] at hc; exact hc

theorem HY.rely {yb db o n cap i off : Nat} {lo : Int} {w w₁ : World} (h : HY yb db o n cap i off lo w) (r : Env w w₁) : HY yb db o n cap i off lo w₁ := ⟨env_cell r h.c0, env_cell r h.c1⟩

theorem dn_still {w : World} {es : Array Event} (h : ∀ e ∈ es, ∀ r, e.loc ≠ .obj r) : DN w w es := dn_cells (Own.refl w) h

/-- .. and what else is held. -/
structure HYF (F : World → Prop) (yb db o n cap i : Nat) (off : Nat) (lo : Int) (w : World) : Prop extends HY yb db o n cap i off lo w where
  more : F w
theorem HYF.rely {F : World → Prop} (hFR : ∀ w w₁, F w → Env w w₁ → F w₁) {yb db o n cap i off : Nat} {lo : Int} {w w₁ : World} (h : HYF F yb db o n cap i off lo w) (r : Env w w₁) : HYF F yb db o n cap i off lo w₁ := ⟨h.toHY.rely r, hFR _ _ h.more r⟩

set_option maxRecDepth 100000 in
theorem f44_co (yb db o n cap : Nat) : ∃ k, ∀ (F : World → Prop) (_ : ∀ w w₁, F w → Env w w₁ → F w₁) (i : Nat) (lo : Int) (w : World), i < n → HYF F yb db o n cap i 0 lo w →
    CallsC PA.prog false Env DN 44 #[.int .i64 i, .pointer (some ⟨yb, 0, none⟩)] k w fun v w' => v = .int .i64 lo ∧ HYF F yb db o n cap i 0 lo w' := by
  co_apply Exists.intro
  intro F hFR i lo w hi hF
  co_apply callsC_of_wpC PA.func44 (by rfl) rfl
  simp only [Try.ntmps44, List.size_toArray, List.length_cons, List.length_nil, Nat.reduceAdd, Nat.reduceSub, Array.replicate_succ, Array.replicate_zero, List.push_toArray, List.append_toArray, List.nil_append, List.cons_append]
  co_stmt env_terms (HYF.rely hFR) hF (co_quiet env_terms)
  co_apply wpC_seq env_terms
  co_reg env_terms
  co_op (HYF.rely hFR) hF (co_quiet env_terms)
  co_opw (HYF.rely hFR) hF (have hc := hF.toHY.c0) (refine dn_still ?_; co_evs (intro r; simp))
  co_op (HYF.rely hFR) hF (co_quiet env_terms)
  co_opw (HYF.rely hFR) hF (skip) (co_still env_terms)
  co_op (HYF.rely hFR) hF (co_quiet env_terms)
  co_op (HYF.rely hFR) hF (co_quiet env_terms)
  co_opw (HYF.rely hFR) hF (have hc := hF.toHY.c1; simp only [Nat.add_zero] at hc) (refine dn_still ?_; co_evs (intro r; simp))
  co_op (HYF.rely hFR) hF (co_quiet env_terms)
  co_ctl env_terms
  co_then
  co_ctl env_terms
  exact ⟨rfl, _, resultsC_tmp (by rfl) _, by simp, hF⟩
set_option maxRecDepth 100000 in
theorem f45_co (yb db o n cap : Nat) : ∃ k, ∀ (F : World → Prop) (_ : ∀ w w₁, F w → Env w w₁ → F w₁) (i : Nat) (lo : Int) (w : World), i < n → HYF F yb db o n cap i 1 lo w →
    CallsC PA.prog false Env DN 45 #[.int .i64 i, .pointer (some ⟨yb, 0, none⟩)] k w fun v w' => v = .int .i64 lo ∧ HYF F yb db o n cap i 1 lo w' := by
  co_apply Exists.intro
  intro F hFR i lo w hi hF
  co_apply callsC_of_wpC PA.func45 (by rfl) rfl
  simp only [Try.ntmps45, List.size_toArray, List.length_cons, List.length_nil, Nat.reduceAdd, Nat.reduceSub, Array.replicate_succ, Array.replicate_zero, List.push_toArray, List.append_toArray, List.nil_append, List.cons_append]
  co_stmt env_terms (HYF.rely hFR) hF (co_quiet env_terms)
  co_apply wpC_seq env_terms
  co_reg env_terms
  co_op (HYF.rely hFR) hF (co_quiet env_terms)
  co_opw (HYF.rely hFR) hF (have hc := hF.toHY.c0) (refine dn_still ?_; co_evs (intro r; simp))
  co_op (HYF.rely hFR) hF (co_quiet env_terms)
  co_opw (HYF.rely hFR) hF (skip) (co_still env_terms)
  co_op (HYF.rely hFR) hF (co_quiet env_terms)
  co_op (HYF.rely hFR) hF (co_quiet env_terms)
  co_opw (HYF.rely hFR) hF (have hc := hF.toHY.c1) (refine dn_still ?_; co_evs (intro r; simp))
  co_op (HYF.rely hFR) hF (co_quiet env_terms)
  co_ctl env_terms
  co_then
  co_ctl env_terms
  exact ⟨rfl, _, resultsC_tmp (by rfl) _, by simp, hF⟩

/-- A cistern of the goroutine's own. -/
structure HC (cb : Nat) (cap lv : Int) (w : World) : Prop where
  blk : w.heap[cb]? = some (.cells #[.int .i64 cap, .int .i64 lv] 120)
theorem HC.rely {cb : Nat} {cap lv : Int} {w w₁ : World} (h : HC cb cap lv w) (r : Env w w₁) : HC cb cap lv w₁ := ⟨env_at r h.blk⟩
theorem HC.c0 {cb : Nat} {cap lv : Int} {w : World} (h : HC cb cap lv w) : w.cell? ⟨cb, 0, none⟩ = some (.int .i64 cap) := by simp [World.cell?, h.blk]
theorem HC.c1 {cb : Nat} {cap lv : Int} {w : World} (h : HC cb cap lv w) : w.cell? ⟨cb, 1, none⟩ = some (.int .i64 lv) := by simp [World.cell?, h.blk]

end Go.Proofs.Ytpolipcicfjkiaa.Cy
/- The cistern's draws, in company, in the view. Conditions: none. -/
namespace Go.Proofs.Ytpolipcicfjkiaa.Cy
open Go Go.Conc Go.RowKit Go.Proofs

theorem ev_min2 {P : Program} (ts : Array TypeId) (t : TypeId) (k k' : IntKind) (x y : Int) (w : World) (es : Array Event) : (Builtin.min_ ts t #[.int k x, .int k' y]).events P w es = es := by
  simp [Builtin.min_, Builtin.min2]
theorem ev_max2 {P : Program} (ts : Array TypeId) (t : TypeId) (k k' : IntKind) (x y : Int) (w : World) (es : Array Event) : (Builtin.max_ ts t #[.int k x, .int k' y]).events P w es = es := by
  simp [Builtin.max_, Builtin.max2]

theorem HC.set {cb : Nat} {cap lv : Int} {w : World} (h : HC cb cap lv w) (x : Int) : HC cb cap x (w.setCell ⟨cb, 1, none⟩ (.int .i64 x)) := by
  have hlt := (Array.getElem?_eq_some_iff.1 h.blk).1
  refine ⟨?_⟩
  unfold World.setCell
  simp only [Array.getElem?_modify, if_true]
  rw [h.blk]
  rfl
theorem HC.thaw {cb : Nat} {cap lv : Int} {w : World} (h : HC cb cap lv w) : w.frozen? ⟨cb, 1, none⟩ = false := by simp [World.frozen?, h.blk]

/-- A cistern of one's own, and what else is held. -/
structure HCF (F : World → Prop) (cb : Nat) (cap lv : Int) (w : World) : Prop extends HC cb cap lv w where
  more : F w
theorem HCF.rely {F : World → Prop} (hFR : ∀ w w₁, F w → Env w w₁ → F w₁) {cb : Nat} {cap lv : Int} {w w₁ : World} (h : HCF F cb cap lv w) (r : Env w w₁) : HCF F cb cap lv w₁ := ⟨h.toHC.rely r, hFR _ _ h.more r⟩
theorem HCF.set {F : World → Prop} {cb : Nat} (hFS : ∀ w x, F w → F (w.setCell ⟨cb, 1, none⟩ (.int .i64 x))) {cap lv : Int} {w : World} (h : HCF F cb cap lv w) (x : Int) : HCF F cb cap x (w.setCell ⟨cb, 1, none⟩ (.int .i64 x)) := ⟨h.toHC.set x, hFS _ _ h.more⟩

set_option maxRecDepth 100000 in
theorem f74_co (main : Bool) : ∃ k, ∀ (F : World → Prop) (cb : Nat) (_ : ∀ w w₁, F w → Env w w₁ → F w₁) (_ : ∀ w x, F w → F (w.setCell ⟨cb, 1, none⟩ (.int .i64 x))) (cap lv r : Int) (w : World), HCF F cb cap lv w →
    CallsC PA.prog main Env DN 74 #[.pointer (some ⟨cb, 0, none⟩), .int .i64 r] k w fun v w' => v = .int .i64 (IntKind.i64.wrap (r - if lv < r then lv else r)) ∧ HCF F cb cap (IntKind.i64.wrap (lv - if lv < r then lv else r)) w' := by
  have hme := fun (w : World) (es : Array Event) (x y : Int) => ev_min2 (P := PA.prog) #[3, 3] 3 .i64 .i64 x y w es
  co_apply Exists.intro
  intro F cb hFR hFS cap lv r w hF
  co_apply callsC_of_wpC PA.func74 (by rfl) rfl
  simp only [Try.ntmps74, List.size_toArray, List.length_cons, List.length_nil, Nat.reduceAdd, Nat.reduceSub, Array.replicate_succ, Array.replicate_zero, List.push_toArray, List.append_toArray, List.nil_append, List.cons_append]
  co_stmt env_terms (HCF.rely hFR) hF (co_quiet env_terms)
  co_apply wpC_seq env_terms
  co_reg env_terms
  co_op (HCF.rely hFR) hF (co_quiet env_terms)
  co_op (HCF.rely hFR) hF (co_quiet env_terms)
  co_op (HCF.rely hFR) hF (co_quiet env_terms)
  co_op (HCF.rely hFR) hF (co_quiet env_terms)
  co_opw (HCF.rely hFR) hF (have hc := hF.toHC.c1) (refine dn_still ?_; co_evs (intro r; simp))
  clear hc
  co_opw (HCF.rely hFR) hF (skip) (co_still env_terms)
  co_op (HCF.rely hFR) hF (co_quiet env_terms)
  co_apply opsC_nil env_terms
  co_then
  generalize (if lv < r then lv else r) = m
  co_apply wpC_seq env_terms
  co_reg env_terms
  co_op (HCF.rely hFR) hF (co_quiet env_terms)
  co_op (HCF.rely hFR) hF (co_quiet env_terms)
  co_op (HCF.rely hFR) hF (co_quiet env_terms)
  co_opw (HCF.rely hFR) hF (have hc := hF.toHC.c1) (refine dn_still ?_; co_evs (intro r; simp))
  clear hc
  co_op (HCF.rely hFR) hF (co_quiet env_terms)
  co_op (HCF.rely hFR) hF (co_quiet env_terms)
  co_op (HCF.rely hFR) hF (co_quiet env_terms)
  co_op (HCF.rely hFR) hF (co_quiet env_terms)
  co_opw (HCF.rely hFR) hF (have hc := hF.toHC.c1; have hz := hF.toHC.thaw) (refine dn_cells (own_setCell hF.toHC.blk) ?_; co_evs (intro r; simp))
  replace hF := hF.set hFS (IntKind.i64.wrap (lv - m))
  clear hc hz
  co_apply opsC_nil env_terms
  co_then
  co_go env_terms (HCF.rely hFR) hF (co_quiet env_terms)
  exact ⟨rfl, _, resultsC_tmp (by rfl) _, by simp, hF⟩
end Go.Proofs.Ytpolipcicfjkiaa.Cy
