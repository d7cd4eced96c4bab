/- The cistern's rains, in company, in the view. Conditions: none. -/
import Derived.Test.YtpolipcicfjkiaaK14
import Derived.Test.YtpolipcicfjkiaaK13
namespace Go.Proofs.Ytpolipcicfjkiaa.Cy
open Go Go.Conc Go.RowKit Go.Proofs

theorem env_draw (w : World) : Env w { w with drawn := w.drawn + 1 } := ⟨Nat.le_refl _, fun _ _ => rfl, rfl⟩

set_option maxRecDepth 100000 in
theorem f73_co (main : Bool) : ∃ k, ∀ (F : World → Prop) (cb : Nat) (_ : ∀ w w₁, F w → Env w w₁ → F w₁) (_ : ∀ w x, F w → F (w.setCell ⟨cb, 1, none⟩ (.int .i64 x))) (cap lv r : Int) (w : World), HCF F cb cap lv w →
    CallsC PA.prog main Env DN 73 #[.pointer (some ⟨cb, 0, none⟩), .int .i64 r] k w fun v w' => v = .int .i64 (if (IntKind.i64.wrap (IntKind.i64.wrap (lv + r) - cap)) > 0 then (IntKind.i64.wrap (IntKind.i64.wrap (lv + r) - cap)) else 0) ∧ HCF F cb cap (IntKind.i64.wrap (IntKind.i64.wrap (lv + r) - if (IntKind.i64.wrap (IntKind.i64.wrap (lv + r) - cap)) > 0 then (IntKind.i64.wrap (IntKind.i64.wrap (lv + r) - cap)) else 0)) w' := by
  have hme := fun (w : World) (es : Array Event) (x y : Int) => ev_max2 (P := PA.prog) #[3, 3] 3 .i64 .i64 x y w es
  co_apply Exists.intro
  intro F cb hFR hFS cap lv r w hF
  co_apply callsC_of_wpC PA.func73 (by rfl) rfl
  simp only [Try.ntmps73, List.size_toArray, List.length_cons, List.length_nil, Nat.reduceAdd, Nat.reduceSub, Array.replicate_succ, Array.replicate_zero, List.push_toArray, List.append_toArray, List.nil_append, List.cons_append]
  co_stmt env_terms (HCF.rely hFR) hF (co_quiet env_terms)
  co_apply wpC_seq env_terms
  co_reg env_terms
  co_op (HCF.rely hFR) hF (co_quiet env_terms)
  co_op (HCF.rely hFR) hF (co_quiet env_terms)
  co_op (HCF.rely hFR) hF (co_quiet env_terms)
  co_opw (HCF.rely hFR) hF (have hc := hF.toHC.c1) (refine dn_still ?_; co_evs (intro r; simp))
  clear hc
  co_op (HCF.rely hFR) hF (co_quiet env_terms)
  co_op (HCF.rely hFR) hF (co_quiet env_terms)
  co_op (HCF.rely hFR) hF (co_quiet env_terms)
  co_op (HCF.rely hFR) hF (co_quiet env_terms)
  co_opw (HCF.rely hFR) hF (have hc := hF.toHC.c1; have hz := hF.toHC.thaw) (refine dn_cells (own_setCell hF.toHC.blk) ?_; co_evs (intro r; simp))
  replace hF := hF.set hFS (IntKind.i64.wrap (lv + r))
  clear hc hz
  co_apply opsC_nil env_terms
  co_then
  co_apply wpC_seq env_terms
  co_held env_terms dn_draw env_draw (HCF F cb cap (IntKind.i64.wrap (lv + r))) (HCF.rely hFR) hF
  co_take 0 env_terms (HCF.rely hFR) hF hw (skip) (co_quiet env_terms)
  co_take 1 env_terms (HCF.rely hFR) hF hw (skip) (co_quiet env_terms)
  co_take 2 env_terms (HCF.rely hFR) hF hw (skip) (co_quiet env_terms)
  co_take 3 env_terms (HCF.rely hFR) hF hw (have hc := hw.toHC.c1) (refine dn_still ?_; co_evs (intro r; simp))
  co_take 4 env_terms (HCF.rely hFR) hF hw (skip) (co_quiet env_terms)
  co_take 5 env_terms (HCF.rely hFR) hF hw (skip) (co_quiet env_terms)
  co_take 6 env_terms (HCF.rely hFR) hF hw (skip) (co_quiet env_terms)
  co_take 7 env_terms (HCF.rely hFR) hF hw (have hc := hw.toHC.c0) (refine dn_still ?_; co_evs (intro r; simp))
  co_take 8 env_terms (HCF.rely hFR) hF hw (skip) (co_quiet env_terms)
  co_take 9 env_terms (HCF.rely hFR) hF hw (skip) (co_still env_terms)
  co_take 10 env_terms (HCF.rely hFR) hF hw (skip) (co_quiet env_terms)
  co_done
  co_apply wpC_seq env_terms
  co_reg env_terms
  co_op (HCF.rely hFR) hF (co_quiet env_terms)
  co_op (HCF.rely hFR) hF (co_quiet env_terms)
  co_op (HCF.rely hFR) hF (co_quiet env_terms)
  co_opw (HCF.rely hFR) hF (have hc := hF.toHC.c1) (refine dn_still ?_; co_evs (intro r; simp))
  clear hc
  co_op (HCF.rely hFR) hF (co_quiet env_terms)
  co_op (HCF.rely hFR) hF (co_quiet env_terms)
  co_op (HCF.rely hFR) hF (co_quiet env_terms)
  co_op (HCF.rely hFR) hF (co_quiet env_terms)
  co_opw (HCF.rely hFR) hF (have hc := hF.toHC.c1; have hz := hF.toHC.thaw) (refine dn_cells (own_setCell hF.toHC.blk) ?_; co_evs (intro r; simp))
  replace hF := hF.set hFS (IntKind.i64.wrap ((IntKind.i64.wrap (lv + r)) - if (IntKind.i64.wrap (IntKind.i64.wrap (lv + r) - cap)) > 0 then (IntKind.i64.wrap (IntKind.i64.wrap (lv + r) - cap)) else 0))
  clear hc hz
  co_apply opsC_nil env_terms
  co_then
  co_go env_terms (HCF.rely hFR) hF (co_quiet env_terms)
  exact ⟨rfl, _, resultsC_tmp (by rfl) _, by simp, hF⟩
end Go.Proofs.Ytpolipcicfjkiaa.Cy
/- run, in company, in the view. Conditions: none. -/
namespace Go.Proofs.Ytpolipcicfjkiaa.Cy
open Go Go.Conc Go.RowKit Go.Proofs

def HT (_ : World) : Prop := True
theorem HT.rely {w w₁ : World} (_ : HT w) (_ : Env w w₁) : HT w₁ := trivial
/-- A block that stands. -/
structure HB (b : Nat) (o : Obj) (w : World) : Prop where
  blk : w.heap[b]? = some o
theorem HB.rely {b : Nat} {o : Obj} {w w₁ : World} (h : HB b o w) (r : Env w w₁) : HB b o w₁ := ⟨env_at r h.blk⟩
structure HBB (b : Nat) (o : Obj) (b2 : Nat) (o2 : Obj) (w : World) : Prop where
  one : HB b o w
  two : HB b2 o2 w
theorem HBB.rely {b b2 : Nat} {o o2 : Obj} {w w₁ : World} (h : HBB b o b2 o2 w) (r : Env w w₁) : HBB b o b2 o2 w₁ := ⟨h.one.rely r, h.two.rely r⟩

theorem dn_new {w : World} {es : Array Event} {c : Array Value} {e : TypeId} {fr : Nat × Nat} (h : ∀ e ∈ es, ∀ r, e.loc ≠ .obj r) : DN w (w.alloc (.cells c e fr)) es := dn_cells (own_alloc (.cells _ _ _ _)) h

theorem hb_new (w : World) (o : Obj) : HB w.heap.size o (w.alloc o) := ⟨World.alloc_heap_new w o⟩
theorem hb_old {b : Nat} {o : Obj} {w : World} (h : HB b o w) (o' : Obj) : HB b o (w.alloc o') := by
  have hlt := (Array.getElem?_eq_some_iff.1 h.blk).1
  refine ⟨?_⟩
  simp only [World.alloc]
  rw [Array.getElem?_push_lt hlt, ← h.blk]
  exact (Array.getElem?_eq_getElem hlt).symm

structure HB1 (F : World → Prop) (b : Nat) (o : Obj) (w : World) : Prop where
  one : HB b o w
  more : F w
theorem HB1.rely {F : World → Prop} (hFR : ∀ w w₁, F w → Env w w₁ → F w₁) {b : Nat} {o : Obj} {w w₁ : World} (h : HB1 F b o w) (r : Env w w₁) : HB1 F b o w₁ := ⟨h.one.rely r, hFR _ _ h.more r⟩
structure HBF (F : World → Prop) (b : Nat) (o : Obj) (b2 : Nat) (o2 : Obj) (w : World) : Prop where
  both : HBB b o b2 o2 w
  more : F w
theorem HBF.rely {F : World → Prop} (hFR : ∀ w w₁, F w → Env w w₁ → F w₁) {b b2 : Nat} {o o2 : Obj} {w w₁ : World} (h : HBF F b o b2 o2 w) (r : Env w w₁) : HBF F b o b2 o2 w₁ := ⟨h.both.rely r, hFR _ _ h.more r⟩

set_option maxRecDepth 100000 in
theorem f49_co (main : Bool) : ∃ k, ∀ (F : World → Prop) (_ : ∀ w w₁, F w → Env w w₁ → F w₁) (_ : ∀ w c e, F w → F (w.alloc (.cells c e))) (c s sv : Value) (fr yb : Nat) (w : World), F w →
    CallsC PA.prog main Env DN 49 #[.agg #[c, s, sv], .func (.func fr) #[] #[.pointer (some ⟨yb, 0, none⟩)]] k w fun v w' => ∃ b1 b2, v = .func (.func 72) #[] #[.pointer (some ⟨b1, 0, none⟩), .pointer (some ⟨b2, 0, none⟩)] ∧
      HBF F b1 (.cells #[c, s, sv] 24) b2 (.cells #[.func (.func fr) #[] #[.pointer (some ⟨yb, 0, none⟩)]] 89) w' := by
  have hmk := fun (w : World) (es : Array Event) (a b : Value) => show (Instr.makeFunc (Fn.func 72) #[] #[a, b]).events PA.prog w es = es from by simp [Instr.makeFunc]
  co_apply Exists.intro
  intro F hFR hFA c s sv fr yb w hF
  co_apply callsC_of_wpC PA.func49 (by rfl) rfl
  simp only [Try.ntmps49, List.size_toArray, List.length_cons, List.length_nil, Nat.reduceAdd, Nat.reduceSub, Array.replicate_succ, Array.replicate_zero, List.push_toArray, List.append_toArray, List.nil_append, List.cons_append]
  co_apply wpC_seq env_terms
  co_reg env_terms
  co_opw (fun h r => hFR _ _ h r) hF (skip) (refine dn_new ?_; co_evs (intro r; simp))
  rename_i W
  have hB : HB1 F _ _ _ := ⟨hb_new W (.cells #[c, s, sv] 24), hFA _ _ _ hF⟩
  clear hF
  co_opw (HB1.rely hFR) hB (skip) (refine dn_new ?_; co_evs (intro r; simp))
  rename_i W2
  have hF : HBF F _ _ _ _ _ := ⟨⟨hb_old hB.one (.cells #[.func (.func fr) #[] #[.pointer (some ⟨yb, 0, none⟩)]] 89), hb_new W2 (.cells #[.func (.func fr) #[] #[.pointer (some ⟨yb, 0, none⟩)]] 89)⟩, hFA _ _ _ hB.more⟩
  clear hB
  co_op (HBF.rely hFR) hF (co_quiet env_terms)
  co_apply opsC_nil env_terms
  co_then
  co_apply wpC_seq env_terms
  co_reg env_terms
  co_opw (HBF.rely hFR) hF (skip) (co_still env_terms)
  co_op (HBF.rely hFR) hF (co_quiet env_terms)
  co_apply opsC_nil env_terms
  co_then
  co_ctl env_terms
  exact ⟨rfl, _, resultsC_tmp (by rfl) _, _, _, by simp, hF⟩
end Go.Proofs.Ytpolipcicfjkiaa.Cy
/- Calls of a function value, in company. Conditions: none. -/
namespace Go.Proofs.Ytpolipcicfjkiaa.Cy
open Go Go.Conc

section
variable {P : Program} {main : Bool} {R : World → World → Prop} {D : World → World → Array Event → Prop}

theorem run_callv {a : Act} {w : World} {o : Oper} {f : Operand} {g : Nat} {lb : Array Value} {fn : Func} {c : Code} {args : Array Operand} {ats : Array TypeId} (hop : o.op = .call { callee := .value f, args, argTypes := ats }) (hf : a.eval f = .func (.func g) #[] lb)
    (hfn : P.funcs[g]? = some fn) (hname : (fn.name == "runtime.NumGoroutine") = false) (hb : fn.body = some c) : (execOp a.eval o).run P w = .ok (.enter g (args.map a.eval ++ lb)) w ∧ (execOp a.eval o).events P w #[] = #[] := by
  obtain ⟨h1, h2⟩ := enters_run hfn hname (by rw [hb]; rfl) (args.map a.eval ++ lb) w
  constructor
  · unfold execOp
    simp [hop, resolve, Deferred.ofValue, hf, invoke]
    exact h1
  · unfold execOp
    simp [hop, resolve, Deferred.ofValue, hf, invoke]
    exact h2

/-- A call of a closure, by the callee's contract. -/
theorem opsC_callv (T : Terms R D) {fnc : FuncId} {Q : Exit → Act → World → Prop} {a : Act} {w : World} {ops : Array Oper} {i : Nat} {rest : List Nat} {o : Oper} {f : Operand} {g : Nat} {lb : Array Value} {args : Array Operand} {ats : Array TypeId} {nf n : Nat} {Post : Value → World → Prop}
    (ho : ops[i]? = some o) (hw : Region.wanted o (yielded ops a.tmps) = true) (hop : o.op = .call { callee := .value f, args, argTypes := ats }) (hfv : a.eval f = .func (.func g) #[] lb)
    (hcall : CallsC P main R D g (args.map a.eval ++ lb) nf w Post) (hnext : ∀ v w', Post v w' → OpsC P main R D fnc ops rest n Q (a.put o.dst v) w') : OpsC P main R D fnc ops (i :: rest) (n + nf + 3) Q a w := by
  intro b k cs Stop m hbf hk hc
  obtain ⟨fn, c, hf, hname, hbody, hwp⟩ := hcall
  have hfin : ∀ v, (b.at a (.inRegion ops (i :: rest) :: k)).finish v = b.at (a.put o.dst v) (.inRegion ops rest :: k) := fun v => by rw [Frame.finish_at, ho]; rfl
  have hleave : ∀ (a' : Act) (w' : World) (todo : List Item), (a'.defers = [] ∧ ∃ v, ResultsC P fn a'.tmps v ∧ Post v w') →
      Goes P main R D Stop (m + n + 1) (G { (Go.Conc.base g).at a' todo with mode := .returning } (b.at a (.inRegion ops (i :: rest) :: k) :: cs)) w' := by
    rintro a' w' todo ⟨hd, v, hr, hp⟩
    refine Goes.step rfl fun w₁ h₁ => ?_
    rw [stepG_leave (b := Go.Conc.base g) rfl hd hf (hr w₁).1 (hr w₁).2, hfin]
    exact ⟨T.idle _, (hnext v w' hp b k cs Stop m hbf hk hc).rely T.trans h₁⟩
  have hbodyG : Goes P main R D Stop (m + n + 2 + nf) (G ((Go.Conc.base g).at { tmps := (args.map a.eval ++ lb) ++ Array.replicate (fn.ntmps - (args.map a.eval ++ lb).size) undef, defers := [] } [.code c]) (b.at a (.inRegion ops (i :: rest) :: k) :: cs)) w := by
    refine hwp (Go.Conc.base g) [] _ Stop (m + n + 2) rfl (by simp [Go.Conc.base]) fun e a' w' q => ?_
    cases e with
    | normal => exact Goes.step rfl fun w₁ h₁ => by rw [stepG_end]; exact ⟨T.idle _, (hleave a' w' [] q).rely T.trans h₁⟩
    | ret => exact fun todo => (hleave a' w' todo q).more
    | exit id => exact q.elim
    | goto l => exact q.elim
    | panic ch => exact q.elim
    | outgrown => exact q.elim
  have e : m + (n + nf + 3) = (m + n + 2 + nf) + 1 := by omega
  rw [e]
  refine Goes.step rfl fun w₁ h₁ => ?_
  obtain ⟨h1, h2⟩ := run_callv (a := a) (w := w₁) hop hfv hf hname hbody
  rw [stepG_enter ho hw hk h1, enter_at _ hf hbody]
  have hl : listed P b.fn a o w₁ = #[] := by unfold listed; rw [h2]; exact seen_none P _
  rw [hl]
  exact ⟨T.idle _, hbodyG.rely T.trans h₁⟩
/-- .. that has one thing bound. -/
theorem opsC_callv1 (T : Terms R D) {fnc : FuncId} {Q : Exit → Act → World → Prop} {a : Act} {w : World} {ops : Array Oper} {i : Nat} {rest : List Nat} {o : Oper} {f : Operand} {g : Nat} {b : Value} {args : Array Operand} {ats : Array TypeId} {nf n : Nat} {Post : Value → World → Prop} {vs : Array Value}
    (ho : ops[i]? = some o) (hw : Region.wanted o (yielded ops a.tmps) = true) (hop : o.op = .call { callee := .value f, args, argTypes := ats }) (hfv : a.eval f = .func (.func g) #[] #[b])
    (hcall : CallsC P main R D g vs nf w Post) (hargs : (args.map a.eval).push b = vs) (hnext : ∀ v w', Post v w' → OpsC P main R D fnc ops rest n Q (a.put o.dst v) w') : OpsC P main R D fnc ops (i :: rest) (n + nf + 3) Q a w :=
  opsC_callv T ho hw hop hfv (by rw [show args.map a.eval ++ #[b] = (args.map a.eval).push b from by simp, hargs]; exact hcall) hnext
theorem opsC_call1 (T : Terms R D) {fn : FuncId} {Q : Exit → Act → World → Prop} {a : Act} {w : World} {ops : Array Oper} {i : Nat} {rest : List Nat} {o : Oper} {f : FuncId} {args : Array Operand} {ats : Array TypeId} {nf n : Nat} {Post : Value → World → Prop} {vs : Array Value}
    (ho : ops[i]? = some o) (hw : Region.wanted o (yielded ops a.tmps) = true) (hop : o.op = .call { callee := .value (.func f), args, argTypes := ats })
    (hcall : CallsC P main R D f vs nf w Post) (hargs : args.map a.eval = vs) (hnext : ∀ v w', Post v w' → OpsC P main R D fn ops rest n Q (a.put o.dst v) w') : OpsC P main R D fn ops (i :: rest) (n + nf + 3) Q a w :=
  opsC_call T ho hw hop (by rw [hargs]; exact hcall) hnext
theorem opsC_yield1 {Q : Exit → Act → World → Prop} {fn : FuncId} {a : Act} {w : World} {ops : Array Oper} {i : Nat} {rest : List Nat} {o : Oper} {l : Nat} {r : Loop} {f : Operand} {args : Array Operand} {ats : Array TypeId} {nr n : Nat} {vs : Array Value} (ho : ops[i]? = some o) (hw : Region.wanted o (yielded ops a.tmps) = true)
    (hop : o.op = .call { callee := .value f, args, argTypes := ats }) (hf : a.eval f = .func (.yield l) #[] #[]) (hs : args.size = r.params.size) (hargs : args.map a.eval = vs)
    (h : ∀ w₁, R w w₁ → w₁.heap[l]? = some (.loop r) ∧ D w₁ w₁ (seen P fn ((Instr.yield l vs).events P w₁ #[])) ∧
      RoundC P main R D l r vs nr w₁ (fun w' => OpsC P main R D fn ops rest n Q (a.put o.dst (.bool true)) w')) : OpsC P main R D fn ops (i :: rest) (n + nr + 1) Q a w :=
  opsC_yield ho hw hop hf hs (by rw [hargs]; exact h)
end
end Go.Proofs.Ytpolipcicfjkiaa.Cy
/- What is left of Wait behind the join, beside leavers. Conditions: none. -/
namespace Go.Proofs.Ytpolipcicfjkiaa.Cy
open Go Go.Conc
open Go.ConcN (WgLive sumTo)
open Go.ConcR (DC0)

theorem gs_at {P : Program} {main : Bool} {ty Wg : Nat} {g0 : Goroutine} {w₀ : World} : ∀ (n : Nat) (g : Goroutine) (w : World), WgLive ty Wg w → (∃ d, w = w₀.at d) → Goes P main (RS ty Wg) DC0 (IsG g0) n g w →
    Goes P main AtRel DC0 (fun a w' => a = g0 ∧ ∃ d, w' = w₀.at d) n g w := by
  have at_at : ∀ w₁ w : World, (∃ d, w = w₀.at d) → AtRel w w₁ → ∃ d, w₁ = w₀.at d := fun w₁ w ⟨d, h⟩ ⟨d', h'⟩ => by subst h; subst h'; exact ⟨d', rfl⟩
  have at_live : ∀ w₁ w : World, WgLive ty Wg w → AtRel w w₁ → WgLive ty Wg w₁ := fun w₁ w h ⟨d, e⟩ => by subst e; exact h
  intro n
  induction n with
  | zero => intro g w hl h0 h; exact fun w₁ r => ⟨h w₁ fun _ => at_live w₁ w hl r, at_at w₁ w h0 r⟩
  | succ n ih =>
    intro g w hl h0 h
    rcases h with h | ⟨hr, h⟩
    · exact .inl fun w₁ r => ⟨h w₁ fun _ => at_live w₁ w hl r, at_at w₁ w h0 r⟩
    · refine .inr ⟨hr, fun w₁ r => ?_⟩
      have hh := h w₁ fun _ => at_live w₁ w hl r
      revert hh
      cases hst : stepG P main g w₁ <;> first | exact fun h => h.elim | skip
      rename_i g' w' es
      rintro ⟨⟨rfl, rfl⟩, hh⟩
      exact ⟨⟨rfl, rfl⟩, ih g' w' (at_live w' w hl r) (at_at w' w h0 r) hh⟩

/-- The caller is back behind Wait; the world is as it was but for the tape. -/
theorem wait_back {P : Program} {ty Wg : Nat} {Shun : Loc → Prop} {B n : Nat} {gs : Array Goroutine} {a g0 : Goroutine} {w : World} {sl : Option (Nat × Nat)} {t : Trace} {q : Nat → Nat} (hl : WgLive ty Wg w) (h0 : gs[0]? = some a) (hL : Leavers P t gs q) (hP : Past Shun B t)
    (h : Goes P true (RS ty Wg) DC0 (IsG g0) n a w) :
    ∃ (N : Nat) (gs' : Array Goroutine) (d : Nat) (sl' : Option (Nat × Nat)) (t' : Trace) (q' : Nat → Nat), runNT P N (crowd gs w sl) t = (.next (crowd gs' (w.at d) sl'), t') ∧ gs'.size = gs.size ∧ gs'[0]? = some g0 ∧ Leavers P t' gs' q' ∧ Past Shun B t' := by
  obtain ⟨N, gs', a', w', sl', t', q', h1, h2, h3, ⟨rfl, d, rfl⟩, h5, h6⟩ := walk_beside (P := P) (Shun := Shun) (B := B) (D := DC0) (fun w w' es hd e he => by rw [hd.2] at he; simp at he) _ n gs a w sl t q (Nat.le_refl _) h0 hL hP (gs_at (w₀ := w) n a w hl ⟨w.drawn, rfl⟩ h)
  exact ⟨N, gs', d, sl', t', q', h1, h2, h3, h5, h6⟩

/-- A walk that looks at the group alone goes on from any world in which the group stands. -/
theorem gs_move {P : Program} {ty Wg n : Nat} {S : Goroutine → World → Prop} {main : Bool} {g : Goroutine} {w w₁ : World} (_hl : WgLive ty Wg w) (hl1 : WgLive ty Wg w₁) (h : Goes P main (RS ty Wg) DC0 S n g w) : Goes P main (RS ty Wg) DC0 S n g w₁ := by
  cases n with
  | zero => exact fun w₂ r => h w₂ fun _ => r hl1
  | succ n =>
    rcases h with h | ⟨hr, h⟩
    · exact .inl fun w₂ r => h w₂ fun _ => r hl1
    · exact .inr ⟨hr, fun w₂ r => h w₂ fun _ => r hl1⟩

/-- What is shunned behind the phase. -/
theorem shuns_end {cls : Nat → Cls} {w : World} {Shun : Loc → Prop} (h : ∀ l, Shun l → ∃ a : Addr, l = .cell a ∧ cls a.block = .none ∧ ∃ c e fr, w.heap[a.block]? = some (.cells c e fr)) : Shuns Shun (Kf (clsE cls) 0 w) (view (clsE cls) 0 w) := by
  intro l hl
  obtain ⟨a, rfl, hc, c, e, fr, hb⟩ := h l hl
  have hlt := (Array.getElem?_eq_some_iff.1 hb).1
  have hv : (view (clsE cls) 0 w).heap[a.block]? = some (.cells #[] e fr) := by
    rw [view_get, hb]
    simp [seenO, clsE_none hc, closeO]
  refine ⟨a, rfl, ⟨hlt, by rw [clsE_none hc]; exact fun e => by cases e⟩, fun x => ⟨?_, ?_⟩⟩
  · unfold World.cell?
    simp [hv]
  · unfold World.cell?
    cases a with
    | mk bl off spot => simp at hv ⊢; rw [hv]; cases spot <;> simp
end Go.Proofs.Ytpolipcicfjkiaa.Cy
/- What stands of blocks while one's own turn; an append of one's own, in company. Conditions: none. -/
namespace Go.Proofs.Ytpolipcicfjkiaa.Cy
open Go Go.Conc Go.RowKit Go.Proofs

/-- Blocks of cells of other types than the worker's own three. -/
def Ap (o : Obj) : Prop := (∀ c fr, o ≠ .cells c 3 fr) ∧ (∀ c fr, o ≠ .cells c 60 fr) ∧ (∀ c fr, o ≠ .cells c 70 fr) ∧ ∀ r, o ≠ .loop r
theorem ap_cells {c : Array Value} {e : TypeId} {fr : Nat × Nat} (h3 : e ≠ 3) (h60 : e ≠ 60) (h70 : e ≠ 70) : Ap (.cells c e fr) := ⟨fun _ _ h => by cases h; exact h3 rfl, fun _ _ h => by cases h; exact h60 rfl, fun _ _ h => by cases h; exact h70 rfl, fun _ h => by cases h⟩
theorem ap_def {d : Option (List Deferred)} : Ap (.deferred d) := ⟨fun _ _ h => (by cases h), fun _ _ h => (by cases h), fun _ _ h => (by cases h), fun _ h => by cases h⟩
/-- These blocks stand. -/
def Keep (S : List (Nat × Obj)) (w : World) : Prop := ∀ p ∈ S, w.heap[p.1]? = some p.2 ∧ Ap p.2
theorem Keep.rely {S : List (Nat × Obj)} {w w₁ : World} (h : Keep S w) (r : Env w w₁) : Keep S w₁ := fun p hp => ⟨env_at r (h p hp).1, (h p hp).2⟩
theorem Keep.alloc {S : List (Nat × Obj)} {w : World} (h : Keep S w) (o : Obj) : Keep S (w.alloc o) := fun p hp => ⟨(hb_old ⟨(h p hp).1⟩ o).blk, (h p hp).2⟩
theorem Keep.at {S : List (Nat × Obj)} {w : World} (h : Keep S w) {b : Nat} {o : Obj} (hp : (b, o) ∈ S) : w.heap[b]? = some o := (h _ hp).1
theorem Keep.cell {S : List (Nat × Obj)} {w : World} (h : Keep S w) {b : Nat} {c : Array Value} {e : TypeId} {fr : Nat × Nat} (hp : (b, Obj.cells c e fr) ∈ S) {i : Nat} {v : Value} (hi : c[i]? = some v) : w.cell? ⟨b, i, none⟩ = some v := by
  simp [World.cell?, (h _ hp).1, hi]
theorem Keep.cons {S : List (Nat × Obj)} {w : World} (h : Keep S w) {b : Nat} {o : Obj} (hb : w.heap[b]? = some o) (ho : Ap o) : Keep ((b, o) :: S) w := by
  intro p hp
  rcases List.mem_cons.1 hp with rfl | hp
  · exact ⟨hb, ho⟩
  · exact h p hp
theorem Keep.sub {S S' : List (Nat × Obj)} {w : World} (h : Keep S w) (hs : ∀ p ∈ S', p ∈ S) : Keep S' w := fun p hp => h p (hs p hp)

theorem heap_set_ne {w : World} {ad : Addr} {v : Value} {b : Nat} {o : Obj} (h : w.heap[b]? = some o) (hne : b ≠ ad.block) : (w.setCell ad v).heap[b]? = some o := by rw [setCell_ne w ad v hne]; exact h
/-- A store into a block of one of the three types. -/
theorem Keep.set {S : List (Nat × Obj)} {w : World} (h : Keep S w) {ad : Addr} {v : Value} {c : Array Value} {e : TypeId} {fr : Nat × Nat} (hb : w.heap[ad.block]? = some (.cells c e fr)) (he : e = 3 ∨ e = 60 ∨ e = 70) : Keep S (w.setCell ad v) := by
  intro p hp
  refine ⟨heap_set_ne (h p hp).1 ?_, (h p hp).2⟩
  intro e'
  obtain ⟨h1, h2, h3, h4, h5⟩ := h p hp
  rw [e', hb] at h1
  have h1 := (Option.some.inj h1).symm
  rcases he with rfl | rfl | rfl
  · exact h2 _ _ h1
  · exact h3 _ _ h1
  · exact h4 _ _ h1
theorem Keep.set_ne {S : List (Nat × Obj)} {w : World} (h : Keep S w) {ad : Addr} {v : Value} (hne : ∀ p ∈ S, p.1 ≠ ad.block) : Keep S (w.setCell ad v) := fun p hp => ⟨heap_set_ne (h p hp).1 (hne p hp), (h p hp).2⟩
theorem Keep.lt {S : List (Nat × Obj)} {w : World} (h : Keep S w) : ∀ p ∈ S, p.1 < w.heap.size := fun p hp => (Array.getElem?_eq_some_iff.1 (h p hp).1).1
theorem Keep.putLoop {S : List (Nat × Obj)} {w : World} (h : Keep S w) {l : Nat} {r r' : Loop} (hl : w.heap[l]? = some (.loop r)) : Keep S (w.putObj l (.loop r')) := by
  intro p hp
  refine ⟨?_, (h p hp).2⟩
  have hne : p.1 ≠ l := by
    intro e'
    obtain ⟨h1, h2, h3, h4, h5⟩ := h p hp
    rw [e', hl] at h1
    exact h5 _ (Option.some.inj h1).symm
  rw [World.putObj_heap_other hne]
  exact (h p hp).1

theorem set_blk {w : World} {b i : Nat} {v : Value} {c : Array Value} {e : TypeId} {fr : Nat × Nat} (h : w.heap[b]? = some (.cells c e fr)) : (w.setCell ⟨b, i, none⟩ v).heap[b]? = some (.cells (c.setIfInBounds i v) e fr) := by
  unfold World.setCell
  simp only [Array.getElem?_modify, if_true]
  rw [h]
  simp
theorem cell_blk {w : World} {b i : Nat} {v : Value} {c : Array Value} {e : TypeId} {fr : Nat × Nat} (h : w.heap[b]? = some (.cells c e fr)) (hi : c[i]? = some v) : w.cell? ⟨b, i, none⟩ = some v := by
  simp [World.cell?, h, hi]
theorem thaw_blk {w : World} {b i : Nat} {c : Array Value} {e : TypeId} (h : w.heap[b]? = some (.cells c e)) : w.frozen? ⟨b, i, none⟩ = false := by
  simp [World.frozen?, h]
theorem setRow_like (w : World) (g : Nat) (cur : Array Value) (new : Array Value) (e : TypeId) (fr : Nat × Nat) (h : w.heap[g]? = some (Obj.cells cur e fr)) : Own w (w.setRow g new) := by
  have hs : (w.setRow g new).heap.size = w.heap.size := by unfold World.setRow; simp
  refine ⟨by rw [hs]; exact Nat.le_refl _, fun b hb => ?_, fun b h1 h2 => absurd h2 (by rw [hs]; omega)⟩
  by_cases hb' : b = g
  · subst hb'
    exact .inr ⟨_, _, h, setRow_heap w b cur new e fr h, Like.cells _ _ _ _⟩
  · exact .inl (setRow_other w g b new hb')

theorem own_drew (w : World) : Own w w.drew := ⟨Nat.le_refl _, fun _ _ => .inl rfl, fun b h1 h2 => absurd h2 (by have h1 : w.heap.size ≤ b := h1; show ¬ b < w.heap.size; omega)⟩
/-- One more behind a row of one's own, in company. -/
theorem append_co {P : Program} (w : World) (base : Nat) (t ty e : TypeId) (i : TypeInfo) (z : Value) (size bytes : Nat) (ht : P.underlying t = some (.slice e)) (hi : P.info? e = some i) (hz : i.zero = some z)
    (hsize : i.size = size) (hby : i.bytes = bytes) (hzs : z.cells.size = size) (hsz : 0 < size)
    (v : Value) (n : Nat) (xs : List Value) (hown : w.ownsRow base e size v n xs)
    (a : Addr) (c : Nat) (news : List Value) (hl : news.length = 1 * size) (hnews : ∀ j u, news[j]? = some u → w.cell? (a.add j) = some u) (h1 : ∀ u ∈ news, u.oneCell' = true)
    (h63 : n + 1 ≤ maxLen) (hbytes : (n + 1) * bytes ≤ 140737488355328) (hbase : base ≤ w.heap.size) :
    ∃ v' w', (Builtin.append_ #[t, t] ty #[v, .slice (some a) 1 c]).run P w = .ok v' w' ∧ w'.ownsRow base e size v' (n + 1) (xs ++ news) ∧ Own w w' ∧ w'.heap.size ≤ w.heap.size + 1 ∧
      (∀ (b : Nat) (o : Obj), w.heap[b]? = some o → (∀ c fr, o ≠ .cells c e fr) → w'.heap[b]? = some o) ∧
      (∀ (b : Nat) (o : Obj), w.heap[b]? = some o → some b ≠ v.ownBlock → w'.heap[b]? = some o) ∧
      ∀ ev ∈ (Builtin.append_ #[t, t] ty #[v, .slice (some a) 1 c]).events P w #[], ∀ r, ev.loc ≠ .obj r := by
  have hev := events_append_where (P := P) w base t ty e i z size bytes ht hi hz hsize hby v n xs hown a 1 c news hl hnews h1 h63 hbytes
  have hev' : ∀ ev ∈ (Builtin.append_ #[t, t] ty #[v, .slice (some a) 1 c]).events P w #[], ∀ r, ev.loc ≠ .obj r := by
    intro ev he r hr
    rcases hev ev he with ⟨ad, h, _⟩ | ⟨m, h, _⟩
    · rw [hr] at h; cases h
    · rw [h] at hr; cases hr
  obtain ⟨v', w', hrun, h2, h3, _⟩ := run_append_own (P := P) w base t ty e i z size bytes ht hi hz hsize hby hzs hsz v n xs hown a 1 c news hl hnews h1 h63 hbytes hbase
  have hblk : ∀ b : Nat, some b = v.ownBlock → ∃ cur, w.heap[b]? = some (.cells cur e (0, 0)) := by
    intro b hb
    rcases hown.2 with ⟨rfl, _⟩ | ⟨g, cap, cur, rfl, _, hg, _⟩
    · simp [Value.ownBlock] at hb
    · simp [Value.ownBlock] at hb; subst hb; exact ⟨_, hg⟩
  have hkeep : ∀ (b : Nat) (o : Obj), w.heap[b]? = some o → some b ≠ v.ownBlock → w'.heap[b]? = some o := by
    intro b o hb hne
    have hlt := (Array.getElem?_eq_some_iff.1 hb).1
    rw [h3.block b hlt hne]
    exact hb
  have hown' : Own w w' ∧ w'.heap.size ≤ w.heap.size + 1 := by
    subst hsize
    subst hby
    have hsmall : n + 1 ≤ 9223372036854775807 := by simp only [maxLen] at h63; omega
    rcases hown.2 with ⟨rfl, rfl⟩ | ⟨g, cap, cur, rfl, hbg, hg, hnc, hcm, hcs, htake⟩
    · have hr := run_append_nil (P := P) w t ty e i z ht hi hz a 1 c news hl hnews (by omega) (by omega) (by have hb := hbytes; simp only [Nat.zero_add] at hb; omega)
      rw [hr] at hrun
      cases hrun
      exact ⟨own_trans (own_drew w) (own_alloc (V := w.drew) (Like.cells _ _ _ _)), by simp⟩
    · by_cases hroom : n + 1 ≤ cap
      · have hfit : n * i.size + news.length ≤ cur.size := by rw [hl, hcs, ← Nat.add_mul]; exact Nat.mul_le_mul_right _ hroom
        have hr := run_append_room (P := P) w t ty e i ht hi g n cap cur hg a 1 c news hl hnews h1 hroom hfit
        rw [hr] at hrun
        cases hrun
        exact ⟨setRow_like w g cur _ e _ hg, by simp⟩
      · have holds : ∀ j u, xs[j]? = some u → w.cell? ((⟨g, 0, none⟩ : Addr).add j) = some u := hown.cells (g := g) rfl
        have hr := run_append_grow (P := P) w t ty e i z ht hi hz ⟨g, 0, none⟩ n cap xs hown.1 holds a 1 c news hl hnews (by omega) (by omega) (growslice_fits (by omega) hbytes)
        rw [hr] at hrun
        cases hrun
        exact ⟨own_trans (own_drew w) (own_alloc (V := w.drew) (Like.cells _ _ _ _)), by simp⟩
  refine ⟨v', w', hrun, h2, hown'.1, hown'.2, fun b o hb ho => ?_, hkeep, hev'⟩
  refine hkeep b o hb fun e' => ?_
  obtain ⟨cur, h⟩ := hblk b e'
  rw [hb] at h
  cases h
  exact ho _ _ rfl
end Go.Proofs.Ytpolipcicfjkiaa.Cy
