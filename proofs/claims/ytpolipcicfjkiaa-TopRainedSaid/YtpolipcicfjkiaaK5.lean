/- The step of a quiet goroutine: every case. Conditions: none. -/
import Derived.Test.YtpolipcicfjkiaaK4
namespace Go.Proofs.Ytpolipcicfjkiaa.Cy
open Go Go.Conc

section
variable {T : Tables} {F1 F2 : Array Func} {K : Nat → Prop}

theorem results_sim (fn : Func) (tmps : Array Value) : Sim K (Program.mk T F1) (Program.mk T F2) (results fn tmps) (results fn tmps) (fun _ => True) := by
  unfold results
  refine Sim.bind (mapM_sim _ (fun r => ?_) _) fun _ _ => Sim.pure trivial
  split
  · exact Sim.pure trivial
  · exact Sim.bind (asAddr_sim _) fun _ _ => loadVar_sim _ _

theorem enter_tame (hF : Shut' F1 F2) {f : FuncId} {args : Array Value} (h : NextOK F1 (.enter f args)) : TF (Frame.enter (Program.mk T F1) f args .normal) ∧ TR F1 F2 (Frame.enter (Program.mk T F1) f args .normal) ∧ Frame.enter (Program.mk T F2) f args .normal = Frame.enter (Program.mk T F1) f args .normal ∧ (Frame.enter (Program.mk T F1) f args .normal).mode = .run := by
  obtain ⟨x, c, h1, hc, ht⟩ := h
  have h2 : F2[f]? = some x := by
    rcases hF.fn f x h1 with h | h
    · exact h.1
    · rw [h.2.1] at hc; cases hc
  refine ⟨⟨by simp [Frame.enter], fun it hit => ?_⟩, ⟨rfl, by simp [Frame.enter], fun _ => ⟨x, x, h1, h2, rfl⟩⟩, by unfold Frame.enter; simp only [h1, h2], rfl⟩
  simp only [Frame.enter, h1, Option.bind_some, hc, Option.getD_some, List.mem_singleton] at hit
  subst hit
  exact ht

theorem round_tame {l : Nat} {f : FuncId} {tmps : Array Value} {a b : Code} (h : NextOK F1 (.round l f tmps a b)) : TF (Frame.round l f tmps a b .normal) ∧ TR F1 F2 (Frame.round l f tmps a b .normal) := by
  refine ⟨⟨by simp [Frame.round], fun it hit => ?_⟩, rfl, by simp [Frame.round], fun e => by cases e⟩
  simp only [Frame.round, List.mem_cons, List.not_mem_nil, or_false] at hit
  rcases hit with rfl | rfl | rfl
  · exact h.1
  · rfl
  · exact h.2

/-- What becomes of a frame whose piece has come to this. -/
def upon (F : Array Func) (T : Tables) (fr : Frame) (fs : List Frame) : Next → Frame × List Frame
  | .value x => (fr.finish x, fs)
  | .skip => (fr.finish undef, fs)
  | .enter f args => (Frame.enter (Program.mk T F) f args .normal, fr :: fs)
  | .round l f tmps a b => (Frame.round l f tmps a b .normal, fr :: fs)
  | _ => (fr, fs)

theorem lost_raise {B : Bool} {fr : Frame} {fs : List Frame} (h : Rets F1 F2 B (fr :: fs)) (ch : List PanicEntry) : Lost F1 (fr.raise ch) := by
  have e : (∃ c, (fr.raise ch).mode = .panicking c) ∧ (fr.raise ch).defers = fr.defers := by
    unfold Frame.raise; split <;> exact ⟨⟨_, rfl⟩, rfl⟩
  exact ⟨e.1, by rw [e.2]; exact h.lost⟩

/-- A piece that is carried out as the frame's next thing. -/
theorem apply_step (hF : Shut' F1 F2) {e : Sem Next} (he : Sim K (Program.mk T F1) (Program.mk T F2) e e (NextOK F1)) {B : Bool} {fr : Frame} {fs : List Frame} {v : World} (hv : Fair K v) (ht : Tame F1 F2 B fr fs) (hm : fr.mode = .run)
    (hk : ∀ d r s k, fr.todo ≠ .call d true r s :: k) : Step4 K F1 F2 B (fun _ base w => stepG.apply (Program.mk T F1) true fr (fs ++ base) none e w) (fun _ base w => stepG.apply (Program.mk T F2) true fr (fs ++ base) none e w) fs v := by
  have hke : (fr.kind == CallKind.early) = false := by simpa using ht.top.kind
  refine step_sem (T := T) (S := fun F _ base w => stepG.apply (Program.mk T F) true fr (fs ++ base) none e w) hF he (fn := fr.fn) hv (upon F1 T fr fs) (fun r hr => ?_) ?_ ?_ ?_
  · cases r <;> first | exact hr.elim | skip
    · exact ht.finish _
    · exact ht.finish _
    · obtain ⟨h1, h2, _, h3⟩ := enter_tame (T := T) hF hr
      exact ⟨h1, .inl h3, fun f hf => by
        rcases List.mem_cons.1 hf with rfl | hf
        · exact ⟨ht.top, hm⟩
        · exact ht.rest f hf, h2, ht.ret⟩
    · obtain ⟨h1, h2⟩ := round_tame (F2 := F2) hr
      exact ⟨h1, .inl rfl, fun f hf => by
        rcases List.mem_cons.1 hf with rfl | hf
        · exact ⟨ht.top, hm⟩
        · exact ht.rest f hf, h2, ht.ret⟩
  · intro F w main base r w' es hFF hr hrun
    unfold stepG.apply
    simp only [if_true, hrun, hke, Bool.false_eq_true, if_false]
    cases r <;> first | exact hr.elim | skip
    · simp [GStep.after, upon, G]
    · simp [GStep.after, upon, G]
    · have he := (enter_tame (T := T) hF hr).2.2.1
      rcases hFF with rfl | rfl
      · simp only [GStep.after, upon, G, Array.append_empty, List.cons_append]
      · simp only [GStep.after, upon, G, Array.append_empty, List.cons_append]
        rw [he]
    · simp [GStep.after, upon, G]
  · intro x v' es ht' hrun
    refine .inr ⟨fr.raise [{ v := x, recovered := false }], v', seen (Program.mk T F1) fr.fn es, ht', lost_raise ht.ret _, fun main base => ?_⟩
    unfold stepG.apply
    simp only [if_true, hrun, hke, Bool.false_eq_true, if_false]
    simp [GStep.after, G]
  · intro h v' es hp hx hrun main base
    unfold stepG.apply
    simp only [if_true, hrun, hke, Bool.false_eq_true, if_false]
    cases h <;> first | exact hp.elim | exact absurd rfl (hx _) | skip
    · rename_i u
      cases u <;> first | exact hp.elim | exact ⟨_, _, _, rfl⟩
    · exact ⟨_, _, _, rfl⟩

theorem after_go (es es' : Array Event) (g : Goroutine) (w : World) : GStep.after es (.go g w es') = .go g w (es ++ es') := rfl

/-- A piece, and what follows as one step with it. -/
theorem step_after (hF : Shut' F1 F2) {α : Type} {e : Sem α} {Φ : α → Prop} (he : Sim K (Program.mk T F1) (Program.mk T F2) e e Φ) {B : Bool} {fn : FuncId} {fs : List Frame} {v : World} (hv : Fair K v) {S : Array Func → StepF} (R : α → Array Func → StepF)
    (hok : ∀ (F : Array Func) (w : World) main base r w' es, (F = F1 ∨ F = F2) → Φ r → e.runT (Program.mk T F) w #[] = (.ok r w', es) → S F main base w = GStep.after (seen (Program.mk T F) fn es) (R r F main base w'))
    (hhalt : ∀ h v' es, e.runT (Program.mk T F1) v #[] = (.halt h v', es) → ∀ main base, ∃ o v' es, S F1 main base v = .ended o v' es)
    (hR : ∀ r v', Φ r → Fair K v' → Step4 K F1 F2 B (R r F1) (R r F2) fs v') : Step4 K F1 F2 B (S F1) (S F2) fs v := by
  rcases hr : e.runT (Program.mk T F1) v #[] with ⟨r, es⟩
  cases r with
  | halt h v' => exact .inr (.inl (hhalt h v' es hr))
  | ok r v1 =>
    obtain ⟨w0, hr0⟩ := hv.2
    obtain ⟨_, _, _, t1, g1, d1, ev1, φ⟩ := he.ok v { w0 with tape := v.tape, drawn := v.drawn } (hr0.tape _ _) hv.1 r v1 es hr (fun _ _ _ => rfl)
    have hf1 := (he.fair hv hr).1
    have hS := fun main base => hok F1 v main base r v1 es (.inl rfl) φ hr
    rcases hR r v1 φ hf1 with ⟨fr', fs', v', es', ht', l1, l2, l3, l4, l5, l6, l7⟩ | h | ⟨fr', v', es', h0, h1, h3⟩ | ⟨h1, hB, x, v', es', h2⟩
    · refine .inl ⟨fr', fs', v', seen (Program.mk T F1) fn es ++ es', ht', fun main base => by rw [hS, l1, after_go], l2, g1.trans l3, Nat.le_trans d1.le l4, l5.trans d1.tape, fun x hx => ?_, fun w hw ha => ?_⟩
      · rcases Array.mem_append.1 hx with hx | hx
        · exact (ev1 x (seen_mem _ _ _ hx)).grow l3
        · exact l6 x hx
      · have m1 := run_drawn _ _ _ _ hr
        obtain ⟨w1, hw1, r1, _, _, dd, _, _⟩ := he.ok v w hw hv.1 r v1 es hr (fun j hj q => ha j (by omega) q)
        obtain ⟨w', hw', r', dd'⟩ := l7 w1 r1 (fun j hj q => by
          have := ha ((v1.drawn - v.drawn) + j) (by have := m1.1; omega) q
          rw [dd.tape, dd.tape', dd.drawn]
          have e : v.drawn + (v1.drawn - v.drawn + j) = v1.drawn + j := by have := m1.1; omega
          rw [e] at this
          rw [this, Nat.add_assoc])
        exact ⟨w', fun main base => by rw [hok F2 w main base r w1 es (.inr rfl) φ hw1, hw', after_go, seen_eq hF], r', dd.trans dd'⟩
    · refine .inr (.inl fun main base => ?_)
      obtain ⟨o, v', es', h⟩ := h main base
      exact ⟨o, v', _, by rw [hS, h]; rfl⟩
    · exact .inr (.inr (.inl ⟨fr', v', _, h0, h1, fun main base => by rw [hS, h3, after_go]⟩))
    · exact .inr (.inr (.inr ⟨h1, hB, x, v', _, fun main c base => by rw [hS, h2, after_go]⟩))

theorem wanted_getD {o : Option Oper} {f : Oper → Bool} : (o.map f).getD false = true ↔ ∃ x, o = some x ∧ f x = true := by
  cases o <;> simp

def isRet : Option Code → Bool
  | none | some .ret => true
  | _ => false

/-- Leaving a frame by its end, a return or an exit that leads out of it. -/
theorem step_leave (hF : Shut' F1 F2) {B : Bool} {fr : Frame} {fs : List Frame} {v : World} (hv : Fair K v) (ht : Tame F1 F2 B fr fs) (hbase : fr.roundOf.isSome = true → fs = [] → B = false) (jump : Option Code) (hj : ∀ c, jump = some c → tameCode c = true)
    (hs0 : fr.roundOf = none → ∀ (F : Array Func) (w : World) main base, stepG (Program.mk T F) main (G fr (fs ++ base)) w =
      if isRet jump then .go (G { fr with mode := .returning } (fs ++ base)) w #[] else .ended (.stuck "exit, goto: no such block or label" (fr.pos (Program.mk T F))) w #[])
    (hs1 : ∀ l, fr.roundOf = some l → ∀ (F : Array Func) (w : World) main base, stepG (Program.mk T F) main (G fr (fs ++ base)) w =
        GStep.after (seen (Program.mk T F) fr.fn ((Instr.endRound l jump).runT (Program.mk T F) w #[]).2) (match ((Instr.endRound l jump).runT (Program.mk T F) w #[]).1 with
        | .ok v w => doReturn (Program.mk T F) main fr (fs ++ base) none v w
        | .halt _ w => .ended (.stuck "range over a function: no such loop" (fr.pos (Program.mk T F))) w)) : Step4 K F1 F2 B (stepF (Program.mk T F1) fr fs) (stepF (Program.mk T F2) fr fs) fs v := by
  cases hr : fr.roundOf with
  | none =>
    have hs := hs0 hr
    cases hjj : isRet jump with
    | true =>
      refine step_ctl (S := fun F => stepF (Program.mk T F) fr fs) hv (fr' := { fr with mode := .returning }) (fs' := fs) ⟨⟨ht.top.kind, ht.top.todo⟩, .inr ⟨rfl, hr⟩, ht.rest, ht.ret.same rfl rfl rfl rfl⟩ (fun F w main base => ?_)
      show stepG _ _ _ _ = _
      rw [hs, hjj]
      rfl
    | false =>
      refine .inr (.inl fun main base => ?_)
      show ∃ o v' es, stepG _ _ _ _ = _
      rw [hs, hjj]
      exact ⟨_, _, _, rfl⟩
  | some l =>
    have hs := hs1 l hr
    cases fs with
    | cons c rest =>
      have hkn := (ht.ret.top (by simp)).kind
      refine step_sem (T := T) (S := fun F => stepF (Program.mk T F) fr (c :: rest)) hF (endRound_sim l jump hj) (fn := fr.fn) hv (fun x => (c.finish x, rest)) (fun x _ => ht.back x) ?_ ?_ ?_
      · intro F w main base r w' es _ _ hrun
        show stepG _ _ _ _ = _
        rw [hs, hrun]
        simp [GStep.after, doReturn, hkn, G]
      · intro x v' es _ hrun
        refine .inl fun main base => ?_
        show ∃ o v' es, stepG _ _ _ _ = _
        rw [hs, hrun]
        exact ⟨_, _, _, rfl⟩
      · intro h v' es _ _ hrun main base
        show ∃ o v' es, stepG _ _ _ _ = _
        rw [hs, hrun]
        exact ⟨_, _, _, rfl⟩
    | nil =>
      have hB := hbase (by rw [hr]; rfl) rfl
      have hkn := (ht.ret.top (by simp [hB])).kind
      rcases hr2 : (Instr.endRound l jump).runT (Program.mk T F1) v #[] with ⟨r, es⟩
      cases r with
      | ok x v' =>
        refine .inr (.inr (.inr ⟨rfl, hB, x, v', seen (Program.mk T F1) fr.fn es, fun main c base => ?_⟩))
        have := hs F1 v main (c :: base)
        simp only [List.nil_append] at this
        show stepG _ _ _ _ = _
        simp only [List.nil_append]
        rw [this, hr2]
        simp [GStep.after, doReturn, hkn, G]
      | halt h v' =>
        refine .inr (.inl fun main base => ?_)
        show ∃ o v' es, stepG _ _ _ _ = _
        rw [hs, hr2]
        exact ⟨_, _, _, rfl⟩

/-- The beginning of a range over a function: the loop's block, and the call. -/
theorem quiet_rangeFunc (hF : Shut' F1 F2) {B : Bool} {fn : FuncId} {tmps : Array Value} {k : List Item} {defers : List Deferred} {kind : CallKind} {roundOf : Option Nat} {fs : List Frame} {v : World} {f : Operand} {params : Array Tmp} {assign body : Code} (hv : Fair K v)
    (ht : Tame F1 F2 B ⟨fn, tmps, .code (.rangeFunc f params assign body) :: k, defers, .run, kind, roundOf⟩ fs) (h0 : tameCode assign = true ∧ tameCode body = true) :
    Step4 K F1 F2 B (stepF (Program.mk T F1) ⟨fn, tmps, .code (.rangeFunc f params assign body) :: k, defers, .run, kind, roundOf⟩ fs) (stepF (Program.mk T F2) ⟨fn, tmps, .code (.rangeFunc f params assign body) :: k, defers, .run, kind, roundOf⟩ fs) fs v := by
  let fr : Frame := ⟨fn, tmps, .code (.rangeFunc f params assign body) :: k, defers, .run, kind, roundOf⟩
  let e2 : Nat → Sem Next := fun l => (do let d ← resolve fr.eval { callee := .value f, args := #[.const (.func (.yield l) #[] #[])], argTypes := #[] } 0; invoke d.target d.args)
  let fr2 : Nat × List Deferred → Frame := fun r => ⟨fn, tmps, .inRangeFunc r.1 :: k, r.2 ++ defers, .run, kind, roundOf⟩
  refine step_after (T := T) (S := fun F => stepF (Program.mk T F) fr fs) hF (enterLoop_sim (F1 := F1) (F2 := F2) fn tmps params assign body roundOf h0) (fn := fn) hv (fun r F _ base w => stepG.apply (Program.mk T F) true (fr2 r) (fs ++ base) none (e2 r.1) w) ?_ ?_ ?_
  · intro F w main base r w' es _ _ hrun
    show stepG _ _ _ _ = _
    simp [stepG, G, stepG.exec, hrun, fr, fr2, e2, -Sem.runT_eq]
    rfl
  · intro h v' es hrun main base
    show ∃ o v' es, stepG _ _ _ _ = _
    simp [stepG, G, stepG.exec, hrun, fr, -Sem.runT_eq]
    exact ⟨_, _, _, rfl⟩
  · intro r v' hr hv'
    refine apply_step hF ?_ hv' ⟨⟨ht.top.kind, fun it hit => ?_⟩, .inl rfl, ht.rest, ht.ret.swap (fun x => ⟨x.kind, fun d hd => ?_, x.fn⟩) (fun x => ⟨x.round, ?_⟩)⟩ rfl (by simp [fr2])
    · refine Sim.bind (Ψ := fun d => quietTarget d.target) ?_ fun d hd => invoke_sim hF.toShut _ hd _
      unfold resolve
      exact ofValue_sim _ _
    · rcases List.mem_cons.1 hit with rfl | hit
      · rfl
      · exact ht.top.todo it (List.mem_cons_of_mem _ hit)
    · rcases List.mem_append.1 hd with hd | hd
      · exact hr d hd
      · exact x.defers d hd
    · obtain ⟨pre, d, e, hd, hp⟩ := x.defers
      have e : defers = pre ++ [d] := e
      refine ⟨r.2 ++ pre, d, by show r.2 ++ defers = _; rw [e, List.append_assoc], hd, fun y hy => ?_⟩
      rcases List.mem_append.1 hy with hy | hy
      · exact hr y hy
      · exact hp y hy

/-- A frame that returns. -/
theorem quiet_return (hF : Shut' F1 F2) {B : Bool} {fn : FuncId} {tmps : Array Value} {todo : List Item} {defers : List Deferred} {kind : CallKind} {fs : List Frame} {v : World} (hv : Fair K v)
    (ht : Tame F1 F2 B ⟨fn, tmps, todo, defers, .returning, kind, none⟩ fs) (hB : B = true → fs = [] → ∃ b ds a, defers = { target := .collected b, args := a } :: ds) : Step4 K F1 F2 B (stepF (Program.mk T F1) ⟨fn, tmps, todo, defers, .returning, kind, none⟩ fs) (stepF (Program.mk T F2) ⟨fn, tmps, todo, defers, .returning, kind, none⟩ fs) fs v := by
  have hun : ∀ (F : Array Func) (w : World) main base, stepF (Program.mk T F) ⟨fn, tmps, todo, defers, .returning, kind, none⟩ fs main base w =
      unwind (Program.mk T F) main ⟨fn, tmps, todo, defers, .returning, kind, none⟩ (fs ++ base) none w := fun F w main base => by simp [stepF, stepG, G]
  cases defers with
  | cons d ds =>
    obtain ⟨tg, args⟩ := d
    have hb : ∃ b, tg = .collected b := by
      by_cases hh : B = true ∧ fs = []
      · obtain ⟨b, ds', a, e⟩ := hB hh.1 hh.2
        simp only [List.cons.injEq, Deferred.mk.injEq] at e
        exact ⟨b, e.1.1⟩
      · exact (ht.ret.top (fun e1 e2 => hh ⟨e1, e2⟩)).defers _ (List.mem_cons_self ..)
    obtain ⟨b, rfl⟩ := hb
    have hTB : TB F1 ⟨fn, tmps, todo, { target := .collected b, args := args } :: ds, .returning, kind, none⟩ → TB F1 ⟨fn, tmps, todo, ds, .returning, kind, none⟩ := by
      intro x
      refine ⟨rfl, ?_⟩
      obtain ⟨pre, d, e, hd, hp⟩ := x.defers
      cases pre with
      | nil =>
        simp only [List.nil_append, List.cons.injEq] at e
        obtain ⟨e1, _⟩ := e
        obtain ⟨f, c, y, e2, _⟩ := hd
        rw [← e1] at e2; cases e2
      | cons p pre =>
        simp only [List.cons_append, List.cons.injEq] at e
        exact ⟨pre, d, e.2, hd, fun y hy => hp y (List.mem_cons_of_mem _ hy)⟩
    refine step_sem (T := T) (S := fun F => stepF (Program.mk T F) ⟨fn, tmps, todo, ⟨.collected b, args⟩ :: ds, .returning, kind, none⟩ fs) hF (takeDeferred_sim b) (fn := fn) hv (fun cs => (⟨fn, tmps, todo, cs ++ ds, .returning, kind, none⟩, fs)) (fun cs hc => ?_) ?_ ?_ ?_
    · subst hc
      exact ⟨⟨ht.top.kind, ht.top.todo⟩, .inr ⟨rfl, rfl⟩, ht.rest, ht.ret.swap (fun x => ⟨x.kind, fun d hd => x.defers d (List.mem_cons_of_mem _ hd), x.fn⟩) hTB⟩
    · intro F w main base r w' es _ _ hr
      show stepF _ _ _ _ _ _ = _
      rw [hun]
      simp [unwind, hr, GStep.after, G, -Sem.runT_eq]
    · intro x v' es _ hr
      refine .inl fun main base => ?_
      show ∃ o v' es, stepF _ _ _ _ _ _ = _
      rw [hun]
      simp [unwind, hr, GStep.after, -Sem.runT_eq]
    · intro h v' es _ _ hr main base
      show ∃ o v' es, stepF _ _ _ _ _ _ = _
      rw [hun]
      simp [unwind, hr, GStep.after, -Sem.runT_eq]
  | nil =>
    have hb' : B = true → fs ≠ [] := fun e1 e2 => by
      obtain ⟨b, ds, a, e⟩ := hB e1 e2
      cases e
    have htop := ht.ret.top hb'
    obtain ⟨x, y0, h1, h2, hres⟩ := htop.fn rfl
    have hkn : kind = .normal := htop.kind
    subst hkn
    simp only at h1 h2
    have hyx : results y0 tmps = results x tmps := by unfold results; rw [hres]
    have hfn : ∀ F : Array Func, (F = F1 ∨ F = F2) → ∃ z, F[fn]? = some z ∧ results z tmps = results x tmps := fun F h => by
      rcases h with rfl | rfl
      · exact ⟨x, h1, rfl⟩
      · exact ⟨y0, h2, hyx⟩
    cases fs with
    | cons c rest =>
      refine step_sem (T := T) (S := fun F => stepF (Program.mk T F) ⟨fn, tmps, todo, [], .returning, .normal, none⟩ (c :: rest)) hF (results_sim x tmps) (fn := fn) hv (fun y => (c.finish y, rest)) (fun y _ => ht.back y) ?_ ?_ ?_
      · intro F w main base r w' es hFF _ hr
        show stepF _ _ _ _ _ _ = _
        rw [hun]
        obtain ⟨z, hz, hzr⟩ := hfn F hFF
        simp [unwind, hz, hzr, hr, GStep.after, doReturn, G, -Sem.runT_eq]
      · intro y v' es _ hr
        refine .inl fun main base => ?_
        show ∃ o v' es, stepF _ _ _ _ _ _ = _
        rw [hun]
        simp [unwind, h1, hr, GStep.after, -Sem.runT_eq]
      · intro h v' es _ hx hr main base
        show ∃ o v' es, stepF _ _ _ _ _ _ = _
        rw [hun]
        cases h <;> first | exact absurd rfl (hx _) | (simp [unwind, h1, hr, GStep.after, -Sem.runT_eq]; done)
    | nil =>
      have hBf : B = false := by cases B with
        | false => rfl
        | true => exact absurd rfl (hb' rfl)
      rcases hr : (results x tmps).runT (Program.mk T F1) v #[] with ⟨r, es⟩
      cases r with
      | ok y v' =>
        refine .inr (.inr (.inr ⟨rfl, hBf, y, v', seen (Program.mk T F1) fn es, fun main c base => ?_⟩))
        rw [hun]
        simp [unwind, h1, hr, GStep.after, doReturn, G, -Sem.runT_eq]
      | halt h v' =>
        refine .inr (.inl fun main base => ?_)
        rw [hun]
        cases h <;> (simp [unwind, h1, hr, GStep.after, -Sem.runT_eq]; done)

theorem step_ctlF {B : Bool} {fr fr' : Frame} {fs fs' : List Frame} {v : World} (hv : Fair K v) (ht : Tame F1 F2 B fr' fs')
    (h : ∀ (F : Array Func) (w : World) main base, stepF (Program.mk T F) fr fs main base w = .go (G fr' (fs' ++ base)) w #[]) : Step4 K F1 F2 B (stepF (Program.mk T F1) fr fs) (stepF (Program.mk T F2) fr fs) fs v :=
  step_ctl (S := fun F => stepF (Program.mk T F) fr fs) hv ht h

theorem step_semF (hF : Shut' F1 F2) {α : Type} {e : Sem α} {Φ : α → Prop} (he : Sim K (Program.mk T F1) (Program.mk T F2) e e Φ) {B : Bool} {fn : FuncId} {fr : Frame} {fs : List Frame} {v : World} (hv : Fair K v)
    (C : α → Frame × List Frame) (hC : ∀ r, Φ r → Tame F1 F2 B (C r).1 (C r).2)
    (hok : ∀ (F : Array Func) (w : World) main base r w' es, (F = F1 ∨ F = F2) → Φ r → e.runT (Program.mk T F) w #[] = (.ok r w', es) →
      stepF (Program.mk T F) fr fs main base w = .go (G (C r).1 ((C r).2 ++ base)) w' (seen (Program.mk T F) fn es))
    (hpanic : ∀ x v' es, Tidy v' → e.runT (Program.mk T F1) v #[] = (.halt (.panic x) v', es) → (∀ main base, ∃ o v' es, stepF (Program.mk T F1) fr fs main base v = .ended o v' es) ∨
      ∃ fr' v' es, Tidy v' ∧ Lost F1 fr' ∧ ∀ main base, stepF (Program.mk T F1) fr fs main base v = .go (G fr' (fs ++ base)) v' es)
    (hhalt : ∀ h v' es, PlainHalt h → (∀ x, h ≠ .panic x) → e.runT (Program.mk T F1) v #[] = (.halt h v', es) → ∀ main base, ∃ o v' es, stepF (Program.mk T F1) fr fs main base v = .ended o v' es) : Step4 K F1 F2 B (stepF (Program.mk T F1) fr fs) (stepF (Program.mk T F2) fr fs) fs v :=
  step_sem (S := fun F => stepF (Program.mk T F) fr fs) hF he hv C hC hok hpanic hhalt

theorem quiet_run [FlatEqs T] (hF : Shut' F1 F2) {B : Bool} {fn : FuncId} {tmps : Array Value} {todo : List Item} {defers : List Deferred} {kind : CallKind} {roundOf : Option Nat} {fs : List Frame} {v : World} (hv : Fair K v)
    (ht : Tame F1 F2 B ⟨fn, tmps, todo, defers, .run, kind, roundOf⟩ fs) (hbase : roundOf.isSome = true → fs = [] → B = false) : Step4 K F1 F2 B (stepF (Program.mk T F1) ⟨fn, tmps, todo, defers, .run, kind, roundOf⟩ fs) (stepF (Program.mk T F2) ⟨fn, tmps, todo, defers, .run, kind, roundOf⟩ fs) fs v := by
  have h3 := ht.top.todo
  have hex : ∀ (F : Array Func) (w : World) main base, stepF (Program.mk T F) ⟨fn, tmps, todo, defers, .run, kind, roundOf⟩ fs main base w =
      stepG.exec (Program.mk T F) main true ⟨fn, tmps, todo, defers, .run, kind, roundOf⟩ (fs ++ base) none w := fun F w main base => by simp [stepF, stepG, G]
  simp only at h3
  cases todo with
  | nil =>
    refine step_leave hF hv ht hbase none (by simp) (fun hr F w main base => ?_) (fun l hr F w main base => ?_)
    · simp only at hr; subst hr
      refine (hex F w main base).trans ?_; simp [stepG.exec, isRet, G]
    · simp only at hr; subst hr
      refine (hex F w main base).trans ?_; simp [stepG.exec, -Sem.runT_eq]; rfl
  | cons it k =>
    have hk : ∀ x ∈ k, tameItem x = true := fun x hx => h3 x (List.mem_cons_of_mem _ hx)
    have h0 := h3 it (List.mem_cons_self ..)
    cases it with
    | code c =>
      cases c with
      | skip => exact step_ctlF hv (ht.to hk) fun F w main base => by rw [hex]; simp [stepG.exec, G]
      | label l => exact step_ctlF hv (ht.to hk) fun F w main base => by rw [hex]; simp [stepG.exec, G]
      | ret =>
        refine step_leave hF hv ht hbase (some .ret) (by simp [tameCode]) (fun hr F w main base => ?_) (fun l hr F w main base => ?_)
        · simp only at hr; subst hr
          refine (hex F w main base).trans ?_; simp [stepG.exec, isRet, G]
        · simp only at hr; subst hr
          refine (hex F w main base).trans ?_; simp [stepG.exec, -Sem.runT_eq]; rfl
      | seq a b =>
        have h0' : tameCode a = true ∧ tameCode b = true := by simpa [tameItem, tameCode] using h0
        refine step_ctlF hv (ht.to (todo := .code a :: .code b :: k) ?_) fun F w main base => by rw [hex]; simp [stepG.exec, G]
        intro x hx
        rcases List.mem_cons.1 hx with rfl | hx
        · exact h0'.1
        · rcases List.mem_cons.1 hx with rfl | hx
          · exact h0'.2
          · exact hk x hx
      | cond c a b =>
        have h0' : tameCode a = true ∧ tameCode b = true := by simpa [tameItem, tameCode] using h0
        cases he : (⟨fn, tmps, .code (.cond c a b) :: k, defers, .run, kind, roundOf⟩ : Frame).eval c with
        | bool t =>
          refine step_ctlF hv (ht.to (todo := .code (if t then a else b) :: k) ?_) fun F w main base => by rw [hex]; simp [stepG.exec, G, he]
          intro x hx
          rcases List.mem_cons.1 hx with rfl | hx
          · cases t
            · exact h0'.2
            · exact h0'.1
          · exact hk x hx
        | _ => exact .inr (.inl fun main base => by simp only [hex]; simp [stepG.exec, he])
      | block id c =>
        refine step_ctlF hv (ht.to (todo := .code c :: .inBlock id :: k) ?_) fun F w main base => by rw [hex]; simp [stepG.exec, G]
        intro x hx
        rcases List.mem_cons.1 hx with rfl | hx
        · exact h0
        · rcases List.mem_cons.1 hx with rfl | hx
          · rfl
          · exact hk x hx
      | loop c =>
        refine step_ctlF hv (ht.to (todo := .code c :: .inLoop c :: k) ?_) fun F w main base => by rw [hex]; simp [stepG.exec, G]
        intro x hx
        rcases List.mem_cons.1 hx with rfl | hx
        · exact h0
        · rcases List.mem_cons.1 hx with rfl | hx
          · exact h0
          · exact hk x hx
      | scope c => cases h0
      | goto l => cases h0
      | refuse s => exact .inr (.inl fun main base => by simp only [hex]; simp [stepG.exec])
      | exit id =>
        cases he : exitTo id k with
        | some k' => exact step_ctlF hv (ht.to (exitTo_tame he hk)) fun F w main base => by rw [hex]; simp [stepG.exec, G, he]
        | none =>
          refine step_leave hF hv ht hbase (some (.exit id)) (by simp [tameCode]) (fun hr F w main base => ?_) (fun l hr F w main base => ?_)
          · simp only at hr; subst hr
            refine (hex F w main base).trans ?_; simp [stepG.exec, isRet, he]
          · simp only at hr; subst hr
            refine (hex F w main base).trans ?_; simp [stepG.exec, he, -Sem.runT_eq]; rfl
      | region id ops draw =>
        have hops : ∀ l, tameItem (.inRegion ops l) = true := fun l => h0
        cases draw with
        | false =>
          refine step_ctlF hv (ht.to (todo := .inRegion ops (List.range ops.size) :: k) ?_) fun F w main base => by rw [hex]; simp [stepG.exec, G]
          intro x hx
          rcases List.mem_cons.1 hx with rfl | hx
          · exact hops _
          · exact hk x hx
        | true =>
          refine step_semF hF (choose_sim (.order fn id)) (fn := fn) hv (fun n => (⟨fn, tmps, .inRegion ops (Region.schedule (T.follows .mixedOrders) ops n) :: k, defers, .run, kind, roundOf⟩, fs)) (fun n _ => ht.to ?_) ?_ ?_ ?_
          · intro x hx
            rcases List.mem_cons.1 hx with rfl | hx
            · exact hops _
            · exact hk x hx
          · intro F w main base r w' es _ _ hr
            rw [hex]
            have hes : es = #[] := by
              simp only [choose, Sem.runT] at hr
              split at hr <;> (cases hr; rfl)
            have hrun : (choose (.order fn id)).run (Program.mk T F) w = .ok r w' := by rw [← Sem.runT_fst, hr]
            subst hes
            simp [stepG.exec, hrun, G, seen]
          · intro x v' es _ hr
            simp only [choose, Sem.runT] at hr
            split at hr <;> cases hr
          · intro h v' es _ _ hr
            simp only [choose, Sem.runT] at hr
            split at hr <;> cases hr
      | rangeFunc f params assign body =>
        have h0' : tameCode assign = true ∧ tameCode body = true := by simpa [tameItem, tameCode] using h0
        exact quiet_rangeFunc hF hv ht h0'
    | inBlock id => exact step_ctlF hv (ht.to hk) fun F w main base => by rw [hex]; simp [stepG.exec, G]
    | inLoop c =>
      refine step_ctlF hv (ht.to (todo := .code c :: .inLoop c :: k) ?_) fun F w main base => by rw [hex]; simp [stepG.exec, G]
      intro x hx
      rcases List.mem_cons.1 hx with rfl | hx
      · exact h0
      · rcases List.mem_cons.1 hx with rfl | hx
        · exact h0
        · exact hk x hx
    | inScope c => cases h0
    | inRegion ops l =>
      cases l with
      | nil => exact step_ctlF hv (ht.to hk) fun F w main base => by rw [hex]; simp [stepG.exec, G]
      | cons i rest =>
        cases hw : ((ops[i]?).map (Region.wanted · (yielded ops tmps))).getD false with
        | false =>
          refine step_ctlF hv (fr' := Frame.finish ⟨fn, tmps, .inRegion ops (i :: rest) :: k, defers, .run, kind, roundOf⟩ undef) (fs' := fs) (ht.finish undef) fun F w main base => by rw [hex]; simp [stepG.exec, G, hw]
        | true =>
          obtain ⟨o, ho, hwo⟩ := wanted_getD.1 hw
          have hot : tameOp o = true := by
            have : ops.toList.all tameOp = true := h0
            rw [List.all_eq_true] at this
            obtain ⟨hlt, rfl⟩ := Array.getElem?_eq_some_iff.1 ho
            exact this _ (by simp)
          have hst := apply_step (T := T) hF (execOp_sim (T := T) (K := K) hF.toShut (Frame.eval ⟨fn, tmps, .inRegion ops (i :: rest) :: k, defers, .run, kind, roundOf⟩) o hot) hv ht rfl (by simp)
          have hstep : ∀ F : Array Func, stepF (Program.mk T F) ⟨fn, tmps, .inRegion ops (i :: rest) :: k, defers, .run, kind, roundOf⟩ fs = fun _ base w => stepG.apply (Program.mk T F) true ⟨fn, tmps, .inRegion ops (i :: rest) :: k, defers, .run, kind, roundOf⟩ (fs ++ base) none (execOp (Frame.eval ⟨fn, tmps, .inRegion ops (i :: rest) :: k, defers, .run, kind, roundOf⟩) o) w := ?_
          · rw [hstep F1, hstep F2]; exact hst
          intro F
          funext main base w
          rw [hex]
          have hnd : ∀ c, o.op ≠ .defer c := by
            intro c e
            simp [tameOp, e] at hot
          have hwo' : (Option.map (fun x => Region.wanted x (yielded ops tmps)) (some o)).getD false = true := hwo
          simp only [stepG.exec, stepG.oper, Frame.oper?, ho, hwo', if_true]
          split
          · rename_i c _ e; exact absurd e (hnd _)
          · rfl
    | inRangeFunc l => exact .inr (.inl fun main base => by simp only [hex]; simp [stepG.exec])
    | endRangeFunc l =>
      refine step_semF hF (endLoop_sim l) (fn := fn) hv (fun j => (⟨fn, tmps, (j.map Item.code).toList ++ k, defers, .run, kind, roundOf⟩, fs)) (fun j hj => ht.to ?_) ?_ ?_ ?_
      · intro x hx
        rcases List.mem_append.1 hx with hx | hx
        · cases j with
          | none => simp at hx
          | some c =>
            simp at hx
            subst hx
            exact hj c rfl
        · exact hk x hx
      · intro F w main base r w' es _ _ hr
        rw [hex]
        simp [stepG.exec, hr, G, GStep.after, -Sem.runT_eq]
      · intro x v' es htv hr
        refine .inr ⟨_, v', seen (Program.mk T F1) fn es, htv, lost_raise ht.ret [{ v := x, recovered := false }], fun main base => ?_⟩
        rw [hex]
        simp [stepG.exec, hr, G, GStep.after, -Sem.runT_eq]
      · intro h v' es hp hx hr main base
        simp only [hex]
        cases h <;> first | exact absurd rfl (hx _) | (simp [stepG.exec, hr, GStep.after, -Sem.runT_eq]; done)
    | beginRound =>
      have hstep : ∀ F : Array Func, stepF (Program.mk T F) ⟨fn, tmps, .beginRound :: k, defers, .run, kind, roundOf⟩ fs = fun _ base w => stepG.apply (Program.mk T F) true ⟨fn, tmps, .beginRound :: k, defers, .run, kind, roundOf⟩ (fs ++ base) none (do roundOf.elim (stuck "beginRound: no round") Instr.beginRound; pure .skip) w := fun F => by
        funext main base w
        rw [hex]
        simp only [stepG.exec]
      rw [hstep F1, hstep F2]
      refine apply_step hF ?_ hv ht rfl (by simp)
      cases roundOf with
      | none => exact Sim.never (never_bindL (never_halt _))
      | some l => exact Sim.bind (beginRound_sim l) fun _ _ => Sim.pure trivial
    | call d w r s => cases h0
    | extern r a => cases h0

/-- ████ A STEP OF A QUIET GOROUTINE. ████ -/
theorem quiet_step [FlatEqs T] (hF : Shut' F1 F2) {B : Bool} {fr : Frame} {fs : List Frame} {v : World} (hv : Fair K v) (ht : Tame F1 F2 B fr fs)
    (hB : B = true → fs = [] → fr.mode = .returning → ∃ b ds a, fr.defers = { target := .collected b, args := a } :: ds) : Step4 K F1 F2 B (stepF (Program.mk T F1) fr fs) (stepF (Program.mk T F2) fr fs) fs v := by
  obtain ⟨fn, tmps, todo, defers, mode, kind, roundOf⟩ := fr
  rcases ht.mode with hm | ⟨hm, hro⟩
  · simp only at hm
    subst hm
    refine quiet_run hF hv ht fun e1 e2 => ?_
    cases B with
    | false => rfl
    | true =>
      subst e2
      have h0 : roundOf = none := TB.round (show TB F1 _ from ht.ret)
      rw [h0] at e1; cases e1
  · simp only at hm hro
    subst hm hro
    exact quiet_return hF hv ht fun e1 e2 => hB e1 e2 rfl
end
end Go.Proofs.Ytpolipcicfjkiaa.Cy
