/- How a piece of an operation fares in a view and in truth: the relation and its rules. Conditions: none. -/
import Derived.Test.YtpolipcicfjkiaaK1
namespace Go.Proofs.Ytpolipcicfjkiaa.Cy
open Go

theorem runT_bind {α β : Type} (p : Program) (e : Sem α) (f : α → Sem β) (w : World) (es : Array Event) :
    (e.bind f).runT p w es = match e.runT p w es with | (.ok a w', es') => (f a).runT p w' es' | (.halt h w', es') => (.halt h w', es') := by
  induction e generalizing w es with
  | pure a => simp only [Sem.bind, Sem.runT]
  | load m a k ih =>
    simp only [Sem.bind, Sem.runT]
    split
    · exact ih _ _ _
    · split
      · exact ih _ _ _
      · rfl
  | store m a v k ih =>
    cases v <;> simp only [Sem.bind, Sem.runT] <;>
      (first
       | rfl
       | (split
          · split
            · rfl
            · exact ih _ _
          · split
            · exact ih _ _
            · rfl))
  | new o k ih => simp only [Sem.bind, Sem.runT]; exact ih _ _ _
  | shape r k ih => simp only [Sem.bind, Sem.runT]; exact ih _ _ _
  | freeze a n k ih => simp only [Sem.bind, Sem.runT]; exact ih _ _
  | frozen a k ih => simp only [Sem.bind, Sem.runT]; exact ih _ _ _
  | getObj r k ih => simp only [Sem.bind, Sem.runT]; split <;> first | rfl | exact ih _ _ _
  | setObj r o k ih => simp only [Sem.bind, Sem.runT]; split <;> first | rfl | exact ih _ _
  | choose q k ih => simp only [Sem.bind, Sem.runT]; split <;> exact ih _ _ _
  | sys c k ih => simp only [Sem.bind, Sem.runT]; exact ih _ _ _
  | program k ih => simp only [Sem.bind, Sem.runT]; exact ih _ _ _
  | mark m k ih => simp only [Sem.bind, Sem.runT]; exact ih _ _
  | halt h => simp only [Sem.bind, Sem.runT]

theorem ask_drawn {α : Type} (x : Ask α) (w : World) : w.drawn ≤ (w.ask x).2.drawn ∧ (w.ask x).2.tape = w.tape := by
  induction x generalizing w with
  | done a => simp [World.ask]
  | ask what range k ih =>
    simp only [World.ask]
    split
    · exact ih _ _
    · have := ih ((Question.extern what range).cut (w.tape w.drawn (.extern what range))) { w with drawn := w.drawn + 1 }
      exact ⟨by have := this.1; simp at this; omega, this.2⟩

theorem sys_drawn (w : World) (c : Sys) : w.drawn ≤ (w.sys c).2.drawn ∧ (w.sys c).2.tape = w.tape := by
  have h := ask_drawn (Kernel.perform c w.os) w
  unfold World.sys
  split
  · exact ⟨Nat.le_refl _, rfl⟩
  · rename_i r os w' _ he
    rw [he] at h
    exact h

theorem viewStore_drawn {p : Program} {w w' : World} {at_ : Addr} {u : TypeId} {k : Addr} {x : Value} {b : Bool} {l : List Addr} (h : w.viewStore p at_ u k x b = .ok (w', l)) : w'.drawn = w.drawn ∧ w'.tape = w.tape := by
  unfold World.viewStore at h
  simp only [bind, Except.bind, pure, Except.pure] at h
  repeat' split at h
  all_goals first
    | (cases h; done)
    | (cases h; exact ⟨rfl, rfl⟩)

theorem farStore_drawn {p : Program} {w w' : World} {a : Addr} {x : Value} {b : Bool} {l : List Addr} (h : w.farStore p a x b = .ok (w', l)) : w'.drawn = w.drawn ∧ w'.tape = w.tape := by
  unfold World.farStore at h
  split at h
  · split at h
    · rename_i he
      cases h
      exact viewStore_drawn he
    · cases h
  · cases h

theorem run_drawn {α : Type} (p : Program) (e : Sem α) (w : World) (es : Array Event) {r : α} {w' : World} {es' : Array Event} (h : e.runT p w es = (.ok r w', es')) : w.drawn ≤ w'.drawn ∧ w'.tape = w.tape := by
  induction e generalizing w es with
  | pure a => simp only [Sem.runT, Prod.mk.injEq, Result.ok.injEq] at h; obtain ⟨⟨_, rfl⟩, _⟩ := h; exact ⟨Nat.le_refl _, rfl⟩
  | load m a k ih =>
    simp only [Sem.runT] at h
    split at h
    · exact ih _ _ _ h
    · split at h
      · exact ih _ _ _ h
      · cases h
  | store m a v k ih =>
    cases v <;> simp only [Sem.runT] at h <;> first
      | (cases h; done)
      | (split at h
         · split at h
           · cases h
           · have h2 := ih _ _ h
             exact h2
         · split at h
           · rename_i hf
             have := farStore_drawn hf
             have := ih _ _ h
             exact ⟨by omega, by simp_all⟩
           · cases h)
  | new o k ih => simp only [Sem.runT] at h; have h2 := ih _ _ _ h; exact h2
  | shape r k ih => simp only [Sem.runT] at h; exact ih _ _ _ h
  | freeze a n k ih =>
    simp only [Sem.runT] at h
    have := ih _ _ h
    unfold World.freeze at this
    split at this <;> exact this
  | frozen a k ih => simp only [Sem.runT] at h; exact ih _ _ _ h
  | getObj r k ih =>
    simp only [Sem.runT] at h
    split at h
    · cases h
    · exact ih _ _ _ h
    · cases h
  | setObj r o k ih =>
    simp only [Sem.runT] at h
    split at h
    · cases h
    · have h2 := ih _ _ h
      exact h2
    · cases h
  | choose q k ih =>
    simp only [Sem.runT] at h
    split at h
    · exact ih _ _ _ h
    · have := ih _ _ _ h
      exact ⟨by have := this.1; simp at this; omega, this.2⟩
  | sys c k ih =>
    simp only [Sem.runT] at h
    have h1 := ih _ _ _ h
    have h2 := sys_drawn w c
    exact ⟨Nat.le_trans h2.1 h1.1, h1.2.trans h2.2⟩
  | program k ih => simp only [Sem.runT] at h; exact ih _ _ _ h
  | mark m k ih => simp only [Sem.runT] at h; exact ih _ _ h
  | halt x => simp only [Sem.runT] at h; cases h



/-- A view that is one of some world. -/
def Fair (K : Nat → Prop) (v : World) : Prop := Tidy v ∧ ∃ w, Rel K v w

/-- WHATEVER THE PIECE YIELDS IN A VIEW IT YIELDS IN TRUTH; it lists the same; the view stays one. -/
structure Sim (K : Nat → Prop) (P1 P2 : Program) {α : Type} (e1 e2 : Sem α) (Φ : α → Prop) : Prop where
  ok : ∀ v w, Rel K v w → Tidy v → ∀ r v' es, e1.runT P1 v #[] = (.ok r v', es) → Agree v v' w →
    ∃ w', e2.runT P2 w #[] = (.ok r w', es) ∧ Rel K v' w' ∧ Tidy v' ∧ Grow v v' ∧ Drew K v v' w w' ∧ (∀ e ∈ es, EvOK K v' e) ∧ Φ r
  halts : ∀ v, Fair K v → ∀ h v' es, e1.runT P1 v #[] = (.halt h v', es) → HaltOK h v'

theorem Rel.tape {K : Nat → Prop} {v w : World} (h : Rel K v w) (t : Nat → Question → Nat) (d : Nat) : Rel K v { w with tape := t, drawn := d } := ⟨h.size, h.low, h.same, h.dim, h.os⟩

theorem Sim.fair {K : Nat → Prop} {P1 P2 : Program} {α : Type} {e1 e2 : Sem α} {Φ : α → Prop} (h : Sim K P1 P2 e1 e2 Φ) {v v' : World} (ht : Fair K v) {r : α} {es : Array Event} (he : e1.runT P1 v #[] = (.ok r v', es)) : Fair K v' ∧ Φ r := by
  obtain ⟨ht, w, hr⟩ := ht
  obtain ⟨w', _, b, c, _, _, _, g⟩ := h.ok v { w with tape := v.tape, drawn := v.drawn } (hr.tape _ _) ht r v' es he (fun _ _ _ => rfl)
  exact ⟨⟨c, w', b⟩, g⟩

theorem halt_pre {α : Type} {P : Program} {e : Sem α} {v v' : World} {es es' : Array Event} {h : Halt} (he : e.runT P v es = (.halt h v', es')) : ∃ es2, e.runT P v #[] = (.halt h v', es2) := by
  rw [runT_pre] at he
  simp only [Prod.mk.injEq] at he
  exact ⟨_, Prod.ext he.1 rfl⟩

section
variable {K : Nat → Prop} {P1 P2 : Program} {α β : Type}

theorem Sim.mono {e1 e2 : Sem α} {Φ Ψ : α → Prop} (h : Sim K P1 P2 e1 e2 Φ) (k : ∀ a, Φ a → Ψ a) : Sim K P1 P2 e1 e2 Ψ := ⟨fun v w hr ht r v' es he ha =>
  let ⟨w', a, b, c, d, e, f, g⟩ := h.ok v w hr ht r v' es he ha; ⟨w', a, b, c, d, e, f, k _ g⟩, h.halts⟩

theorem Sim.pure {a : α} {Φ : α → Prop} (h : Φ a) : Sim K P1 P2 (Sem.pure a) (Sem.pure a) Φ := by
  refine ⟨?_, fun v _ h v' es he => by simp only [Sem.runT] at he; cases he⟩
  intro v w hr ht r v' es he _
  simp only [Sem.runT, Prod.mk.injEq, Result.ok.injEq] at he
  obtain ⟨⟨rfl, rfl⟩, rfl⟩ := he
  exact ⟨w, rfl, hr, ht, Grow.refl _, Drew.refl _ _ _, by simp, h⟩

theorem Sim.halt {h : Halt} {e2 : Sem α} {Φ : α → Prop} (hp : PlainHalt h := by trivial) : Sim K P1 P2 (Sem.halt h) e2 Φ := by
  refine ⟨?_, fun v ht h v' es he => by simp only [Sem.runT] at he; cases he; exact ⟨hp, ht.1⟩⟩
  intro v w hr ht r v' es he _
  simp only [Sem.runT] at he
  cases he

theorem Sim.bind {e1 e2 : Sem α} {f1 f2 : α → Sem β} {Ψ : α → Prop} {Φ : β → Prop} (h : Sim K P1 P2 e1 e2 Ψ) (k : ∀ a, Ψ a → Sim K P1 P2 (f1 a) (f2 a) Φ) : Sim K P1 P2 (e1.bind f1) (e2.bind f2) Φ := by
  refine ⟨?_, fun v ht x v' es he => ?_⟩
  case refine_2 =>
    rw [runT_bind] at he
    split at he
    · rename_i a v1 es1 h1
      have := h.fair ht h1
      obtain ⟨es2, he2⟩ := halt_pre he
      exact (k a this.2).halts v1 this.1 x v' es2 he2
    · rename_i h1
      cases he
      exact h.halts v ht _ _ _ h1
  intro v w hr ht r v' es he ha
  rw [runT_bind] at he
  split at he
  · rename_i a v1 es1 h1
    rw [runT_pre] at he
    simp only [Prod.mk.injEq] at he
    obtain ⟨hk, rfl⟩ := he
    have hk' : (f1 a).runT P1 v1 #[] = (.ok r v', ((f1 a).runT P1 v1 #[]).2) := Prod.ext hk rfl
    have m1 := run_drawn _ _ _ _ h1
    have m2 := run_drawn _ _ _ _ hk'
    obtain ⟨w1, a1, r1, t1, g1, d1, e1', p1⟩ := h.ok v w hr ht a v1 es1 h1 (fun j hj q => ha j (by omega) q)
    obtain ⟨w2, a2, r2, t2, g2, d2, e2', p2⟩ := (k a p1).ok v1 w1 r1 t1 r v' _ hk' (fun j hj q => by
      have := ha ((v1.drawn - v.drawn) + j) (by have := m1.1; omega) q
      rw [d1.tape, d1.tape', d1.drawn]
      have e : v.drawn + (v1.drawn - v.drawn + j) = v1.drawn + j := by have := m1.1; omega
      rw [e] at this
      rw [this, Nat.add_assoc])
    refine ⟨w2, ?_, r2, t2, g1.trans g2, d1.trans d2, fun e he => ?_, p2⟩
    · rw [runT_bind, a1]
      simp only
      rw [runT_pre, a2]
    · rcases Array.mem_append.1 he with h' | h'
      · exact (e1' e h').grow g2
      · exact e2' e h'
  · cases he

theorem Sim.ite {c : Prop} [Decidable c] {a1 a2 b1 b2 : Sem α} {Φ : α → Prop} (h1 : c → Sim K P1 P2 a1 a2 Φ) (h2 : ¬ c → Sim K P1 P2 b1 b2 Φ) : Sim K P1 P2 (if c then a1 else b1) (if c then a2 else b2) Φ := by
  by_cases h : c
  · rw [if_pos h, if_pos h]; exact h1 h
  · rw [if_neg h, if_neg h]; exact h2 h

theorem Sim.program {k1 k2 : Program → Sem α} {Φ : α → Prop} (h : Sim K P1 P2 (k1 P1) (k2 P2) Φ) : Sim K P1 P2 (.program k1) (.program k2) Φ := by
  refine ⟨?_, fun v ht x v' es he => by simp only [Sem.runT] at he; exact h.halts v ht x v' es he⟩
  intro v w hr ht r v' es he ha
  simp only [Sem.runT] at he ⊢
  exact h.ok v w hr ht r v' es he ha

/-- The same is done to both. -/
theorem Rel.set {v w : World} (h : Rel K v w) {b : Nat} (hb : ¬ K b) (o : Obj) (tv tw : Nat → Question → Nat) (dv dw : Nat) (ov ow : Array (Nat × ByteArray)) :
    Rel K { heap := v.heap.setIfInBounds b o, tape := tv, drawn := dv, os := v.os, output := ov } { heap := w.heap.setIfInBounds b o, tape := tw, drawn := dw, os := w.os, output := ow } := by
  have ne : ∀ i, K i → b ≠ i := fun i hi e => hb (e ▸ hi)
  refine ⟨by simp [h.size], fun i hi => by simpa using h.low i hi, fun i hi => ?_, fun i hi => ?_, h.os⟩
  · by_cases e : b = i
    · subst e
      simp only [Array.getElem?_setIfInBounds, if_true, h.size]
    · simp only [Array.getElem?_setIfInBounds_ne e]
      exact h.same i hi
  · simp only [Array.getElem?_setIfInBounds_ne (ne i hi)]
    exact h.dim i hi

theorem kept_set {v w : World} {b : Nat} (hb : ¬ K b) (o : Obj) : ∀ i, K i → (v.heap.setIfInBounds b o)[i]? = v.heap[i]? ∧ (w.heap.setIfInBounds b o)[i]? = w.heap[i]? := fun i hi =>
  have e : b ≠ i := fun e => hb (e ▸ hi)
  ⟨Array.getElem?_setIfInBounds_ne e, Array.getElem?_setIfInBounds_ne e⟩

theorem modify_eq_set (hp : Array Obj) (b : Nat) (f : Obj → Obj) {o : Obj} (h : hp[b]? = some o) : hp.modify b f = hp.setIfInBounds b (f o) := by
  apply Array.ext_getElem?
  intro i
  have hlt : b < hp.size := (Array.getElem?_eq_some_iff.1 h).1
  by_cases e : b = i
  · subst e
    rw [Array.getElem?_setIfInBounds_self_of_lt hlt, Array.getElem?_modify, if_pos rfl, h]; rfl
  · rw [Array.getElem?_setIfInBounds_ne e, Array.getElem?_modify, if_neg e]

theorem Grow.set {v : World} {b : Nat} {o o' : Obj} (h : v.heap[b]? = some o) (ha : Alike o o') (t : Nat → Question → Nat) (d : Nat) (os : Os) (ou : Array (Nat × ByteArray)) :
    Grow v { heap := v.heap.setIfInBounds b o', tape := t, drawn := d, os := os, output := ou } := by
  refine ⟨by simp, fun i x hx => ?_⟩
  have hlt : b < v.heap.size := (Array.getElem?_eq_some_iff.1 h).1
  by_cases e : b = i
  · subst e
    rw [h] at hx
    cases hx
    exact ⟨o', by simp [Array.getElem?_setIfInBounds_self_of_lt hlt], ha⟩
  · exact ⟨x, by simp [Array.getElem?_setIfInBounds_ne e, hx], by cases x <;> simp [Alike]⟩

theorem Tidy.set {v : World} (h : Tidy v) {b : Nat} {o : Obj} (ho : tameObj o) (t : Nat → Question → Nat) (d : Nat) (os : Os) (ou : Array (Nat × ByteArray)) :
    Tidy { heap := v.heap.setIfInBounds b o, tape := t, drawn := d, os := os, output := ou } := by
  intro i x hx
  by_cases e : b = i
  · subst e
    have hlt : b < v.heap.size := by
      have := (Array.getElem?_eq_some_iff.1 hx).1
      simpa using this
    simp only [Array.getElem?_setIfInBounds_self_of_lt hlt, Option.some.injEq] at hx
    subst hx
    exact ho
  · simp only [Array.getElem?_setIfInBounds_ne e] at hx
    exact h i x hx

/-- A cell that the view holds stands there in truth; if it can be written its block is not kept. -/
theorem cell_of_rel {v w : World} (h : Rel K v w) {a : Addr} {x : Value} (hx : v.cell? a = some x) : w.cell? a = some x ∧ (v.frozen? a = false → ¬ K a.block ∧ v.heap[a.block]? = w.heap[a.block]?) := by
  by_cases hk : K a.block
  · obtain ⟨o, o', ho, ho', hd⟩ := h.dim _ hk
    cases hd with
    | empty c e fr =>
      exfalso
      have : v.cell? a = if a.spot.isSome then none else (#[] : Array Value)[a.off]? := by unfold World.cell?; rw [ho]
      rw [this] at hx
      split at hx <;> simp at hx
    | froz c e fr =>
      have hv : v.cell? a = if a.spot.isSome then none else c[a.off]? := by unfold World.cell?; rw [ho]
      have hw : w.cell? a = if a.spot.isSome then none else c[a.off]? := by unfold World.cell?; rw [ho']
      refine ⟨by rw [hw, ← hv]; exact hx, fun hf => ?_⟩
      exfalso
      rw [hv] at hx
      split at hx
      · cases hx
      · have hlt := (Array.getElem?_eq_some_iff.1 hx).1
        unfold World.frozen? at hf
        rw [ho] at hf
        simp [hlt] at hf
    | keep o hk2 =>
      exfalso
      unfold World.cell? at hx
      rw [ho] at hx
      cases o <;> simp at hk2 hx
    | _ =>
      exfalso
      unfold World.cell? at hx
      rw [ho] at hx
      cases hx
  · have e := h.same _ hk
    exact ⟨by unfold World.cell? at hx ⊢; rw [← e]; exact hx, fun _ => ⟨hk, e⟩⟩

theorem noCell_plain {v : World} (ht : Tidy v) (a : Addr) (s : String) : PlainHalt (v.noCell a s) := by
  unfold World.noCell
  split
  · rename_i ho; exact (ht _ _ ho).elim
  · trivial
  · trivial

theorem far_of_tidy {P : Program} {v : World} (ht : Tidy v) (a : Addr) (b : Bool) : ∃ h, v.farLoad P a b = .error h ∧ PlainHalt h := by
  have hn := noCell_plain ht a "load: no such cell"
  unfold World.farLoad
  split
  · rename_i at_ u ho
    have hs : at_.spot.isSome = true := ht _ _ ho
    have : ∃ y, v.viewLoad P at_ u a b = .error y := by
      unfold World.viewLoad World.seen
      simp only [hs, Bool.or_true, if_true]
      exact ⟨_, rfl⟩
    obtain ⟨y, hy⟩ := this
    rw [hy]
    exact ⟨_, rfl, trivial⟩
  · exact ⟨_, rfl, hn⟩

theorem farStore_of_tidy {P : Program} {v : World} (ht : Tidy v) (a : Addr) (x : Value) (b : Bool) : ∃ h, v.farStore P a x b = .error h ∧ PlainHalt h := by
  have hn := noCell_plain ht a "store: no such cell"
  unfold World.farStore
  split
  · rename_i at_ u ho
    have hs : at_.spot.isSome = true := ht _ _ ho
    have : ∃ y, v.viewStore P at_ u a x b = .error y := by
      unfold World.viewStore World.seen
      simp only [hs, Bool.or_true, if_true]
      simp only [bind, Except.bind]
      split
      · exact ⟨_, rfl⟩
      · rename_i hh
        exact ⟨_, rfl⟩
    obtain ⟨y, hy⟩ := this
    rw [hy]
    exact ⟨_, rfl, trivial⟩
  · exact ⟨_, rfl, hn⟩


theorem Fair.set {v : World} (h : Fair K v) {b : Nat} (hb : ¬ K b) {o : Obj} (ho : tameObj o) : Fair K { v with heap := v.heap.setIfInBounds b o } := by
  obtain ⟨ht, w, hr⟩ := h
  exact ⟨ht.set ho _ _ _ _, _, hr.set hb o _ w.tape _ w.drawn _ w.output⟩

theorem Sim.load {m : Mode} {a : Addr} {k1 k2 : Value → Sem α} {Φ : α → Prop} (h : ∀ x, Sim K P1 P2 (k1 x) (k2 x) Φ) : Sim K P1 P2 (.load m a k1) (.load m a k2) Φ := by
  refine ⟨?_, fun v ht x v' es he => ?_⟩
  case refine_2 =>
    simp only [Sem.runT] at he
    split at he
    · obtain ⟨es2, he2⟩ := halt_pre he
      exact (h _).halts v ht x v' es2 he2
    · obtain ⟨y, hy, hp⟩ := far_of_tidy (P := P1) ht.1 a (m == .atomic)
      rw [hy] at he
      cases he
      exact ⟨hp, ht.1⟩
  intro v w hr ht r v' es he ha
  simp only [Sem.runT] at he ⊢
  split at he
  · rename_i x hx
    rw [(cell_of_rel hr hx).1]
    rw [runT_pre] at he
    simp only [Prod.mk.injEq] at he
    obtain ⟨hk, rfl⟩ := he
    obtain ⟨w', a1, r1, t1, g1, d1, e1, p1⟩ := (h x).ok v w hr ht r v' _ (Prod.ext hk rfl) ha
    refine ⟨w', by simp only; rw [runT_pre, a1], r1, t1, g1, d1, fun e he => ?_, p1⟩
    rcases Array.mem_append.1 he with h' | h'
    · simp only [Array.mem_push, Array.not_mem_empty, false_or] at h'
      subst h'
      exact EvOK.grow (v := v) ⟨⟨x, hx⟩, fun e => by cases e⟩ g1
    · exact e1 e h'
  · obtain ⟨y, hy, _⟩ := far_of_tidy (P := P1) ht a (m == .atomic)
    rw [hy] at he
    cases he

theorem Drew.of {v w v1 w1 v' w' : World} (h : Drew K v1 v' w1 w') (hk : ∀ b, K b → v1.heap[b]? = v.heap[b]? ∧ w1.heap[b]? = w.heap[b]?) (os : v1.os = v.os) (o : v1.output = v.output) (o' : w1.output = w.output) (t : v1.tape = v.tape) (t' : w1.tape = w.tape) (d : v1.drawn = v.drawn) (d' : w1.drawn = w.drawn) : Drew K v v' w w' :=
  ⟨fun b hb => ⟨(h.kept b hb).1.trans (hk b hb).1, (h.kept b hb).2.trans (hk b hb).2⟩, h.os.trans os, h.out.trans o, h.out'.trans o', h.tape.trans t, h.tape'.trans t', d ▸ h.le, by rw [h.drawn, d, d']⟩

theorem setCell_eq {v : World} {a : Addr} {c : Array Value} {e : TypeId} {fr : Nat × Nat} (ho : v.heap[a.block]? = some (.cells c e fr)) (x : Value) :
    v.setCell a x = { v with heap := v.heap.setIfInBounds a.block (.cells (if a.spot.isSome then c else c.setIfInBounds a.off x) e fr) } := by
  unfold World.setCell; rw [modify_eq_set _ _ _ ho]

theorem Sim.store {m : Mode} {a : Addr} {x : Value} {k1 k2 : Sem α} {Φ : α → Prop} (h : Sim K P1 P2 k1 k2 Φ) : Sim K P1 P2 (.store m a x k1) (.store m a x k2) Φ := by
  have row : ∀ (v : World) z, v.cell? a = some z → ∃ c e fr, v.heap[a.block]? = some (.cells c e fr) := by
    intro v z hz
    unfold World.cell? at hz
    split at hz
    · exact ⟨_, _, _, ‹_›⟩
    · cases hz
  refine ⟨?_, fun v ht y v' es he => ?_⟩
  case refine_2 =>
    have go : (match v.cell? a with
        | some _ => if v.frozen? a then (Result.halt (.unsupported (.unsafePointer "a write to bytes that a string shares")) v, #[]) else k1.runT P1 (v.setCell a x) (#[].push ⟨.cell a, true, m == .atomic⟩)
        | none => match v.farStore P1 a x (m == .atomic) with
          | .ok (v2, touched) => k1.runT P1 v2 (#[] ++ touched.toArray.map (⟨.cell ·, true, m == .atomic⟩))
          | .error h => (.halt h v, #[])) = (.halt y v', es) → HaltOK y v' := by
      intro he
      split at he
      · rename_i z hz
        split at he
        · cases he; exact ⟨trivial, ht.1⟩
        · rename_i hf
          obtain ⟨es2, he2⟩ := halt_pre he
          obtain ⟨c, e, fr, ho⟩ := row v z hz
          obtain ⟨w, hr⟩ := ht.2
          refine h.halts _ ?_ y v' es2 he2
          rw [setCell_eq ho]
          exact ht.set ((cell_of_rel hr hz).2 (by simpa using hf)).1 trivial
      · obtain ⟨z, hz, hp⟩ := farStore_of_tidy (P := P1) ht.1 a x (m == .atomic)
        rw [hz] at he
        cases he
        exact ⟨hp, ht.1⟩
    cases x <;> simp only [Sem.runT] at he <;> first | exact go he | (cases he; exact ⟨trivial, ht.1⟩)
  intro v w hr ht r v' es he ha
  have main : ∀ y, v.cell? a = some y → v.frozen? a = false → k1.runT P1 (v.setCell a x) (#[].push ⟨.cell a, true, m == .atomic⟩) = (.ok r v', es) →
      ∃ w', k2.runT P2 (w.setCell a x) (#[].push ⟨.cell a, true, m == .atomic⟩) = (.ok r w', es) ∧ Rel K v' w' ∧ Tidy v' ∧ Grow v v' ∧ Drew K v v' w w' ∧ (∀ e ∈ es, EvOK K v' e) ∧ Φ r := by
    intro y hy hf he
    obtain ⟨hw, hk⟩ := cell_of_rel hr hy
    obtain ⟨hk, heq⟩ := hk hf
    obtain ⟨c, e, fr, ho⟩ := row v y hy
    have ho' : w.heap[a.block]? = some (.cells c e fr) := by rw [← heq, ho]
    have sv := setCell_eq ho x
    have sw := setCell_eq ho' x
    have hr' : Rel K (v.setCell a x) (w.setCell a x) := by rw [sv, sw]; exact hr.set hk _ _ _ _ _ _ _
    have ht' : Tidy (v.setCell a x) := by rw [sv]; exact ht.set (by simp [tameObj]) _ _ _ _
    have hg : Grow v (v.setCell a x) := by rw [sv]; exact Grow.set ho ⟨_, _, _, rfl, by split <;> simp⟩ _ _ _ _
    have hkp : ∀ b, K b → (v.setCell a x).heap[b]? = v.heap[b]? ∧ (w.setCell a x).heap[b]? = w.heap[b]? := by rw [sv, sw]; exact kept_set hk _
    rw [runT_pre] at he
    simp only [Prod.mk.injEq] at he
    obtain ⟨hk1, rfl⟩ := he
    obtain ⟨w', a1, r1, t1, g1, d1, e1, p1⟩ := h.ok _ _ hr' ht' r v' _ (Prod.ext hk1 rfl) ha
    refine ⟨w', by rw [runT_pre, a1], r1, t1, hg.trans g1, d1.of hkp rfl rfl rfl rfl rfl rfl rfl, fun e he => ?_, p1⟩
    rcases Array.mem_append.1 he with h' | h'
    · simp only [Array.mem_push, Array.not_mem_empty, false_or] at h'
      subst h'
      exact EvOK.grow (v := v) ⟨⟨y, hy⟩, fun _ => hk⟩ (hg.trans g1)
    · exact e1 e h'
  have go : (match v.cell? a with
      | some _ => if v.frozen? a then (Result.halt (.unsupported (.unsafePointer "a write to bytes that a string shares")) v, #[]) else k1.runT P1 (v.setCell a x) (#[].push ⟨.cell a, true, m == .atomic⟩)
      | none => match v.farStore P1 a x (m == .atomic) with
        | .ok (v2, touched) => k1.runT P1 v2 (#[] ++ touched.toArray.map (⟨.cell ·, true, m == .atomic⟩))
        | .error h => (.halt h v, #[])) = (.ok r v', es) →
      ∃ w', (match w.cell? a with
      | some _ => if w.frozen? a then (Result.halt (.unsupported (.unsafePointer "a write to bytes that a string shares")) w, #[]) else k2.runT P2 (w.setCell a x) (#[].push ⟨.cell a, true, m == .atomic⟩)
      | none => match w.farStore P2 a x (m == .atomic) with
        | .ok (w2, touched) => k2.runT P2 w2 (#[] ++ touched.toArray.map (⟨.cell ·, true, m == .atomic⟩))
        | .error h => (.halt h w, #[])) = (.ok r w', es) ∧ Rel K v' w' ∧ Tidy v' ∧ Grow v v' ∧ Drew K v v' w w' ∧ (∀ e ∈ es, EvOK K v' e) ∧ Φ r := by
    intro he
    split at he
    · rename_i y hy
      split at he
      · cases he
      · rename_i hf
        have hf' : v.frozen? a = false := by simpa using hf
        obtain ⟨hw, hk⟩ := cell_of_rel hr hy
        have hfw : w.frozen? a = false := by
          unfold World.frozen? at hf' ⊢
          rw [← (hk hf').2]; exact hf'
        rw [hw]
        simp only [hfw]
        exact main y hy hf' he
    · obtain ⟨y, hy, _⟩ := farStore_of_tidy (P := P1) ht a x (m == .atomic)
      rw [hy] at he
      cases he
  cases x <;> simp only [Sem.runT] at he ⊢ <;> first | exact go he | (cases he; done)

theorem Rel.new {v w : World} (hr : Rel K v w) (o : Obj) : Rel K { v with heap := v.heap.push o } { w with heap := w.heap.push o } := by
  refine ⟨by simp [hr.size], fun b hb => by have := hr.low b hb; simp; omega, fun b hb => ?_, fun b hb => ?_, hr.os⟩
  · simp only [Array.getElem?_push, hr.size]
    split
    · rfl
    · exact hr.same b hb
  · have h1 := hr.low b hb
    have h2 := hr.size
    simp only [Array.getElem?_push]
    rw [if_neg (by omega), if_neg (by omega)]
    exact hr.dim b hb

theorem Tidy.new {v : World} (h : Tidy v) {o : Obj} (ho : tameObj o) : Tidy { v with heap := v.heap.push o } := fun b y hx => by
  simp only [Array.getElem?_push] at hx
  split at hx
  · cases hx; exact ho
  · exact h b y hx

theorem Grow.new (v : World) (o : Obj) : Grow v { v with heap := v.heap.push o } := ⟨by simp, fun b x hx => ⟨x, by
    have := (Array.getElem?_eq_some_iff.1 hx).1
    simp only [Array.getElem?_push]
    rw [if_neg (by omega)]
    exact hx, by cases x <;> simp [Alike]⟩⟩

/-- A new block is not kept from the view. -/
theorem Sim.new {o : Obj} {k1 k2 : Nat → Sem α} {Φ : α → Prop} (ho : tameObj o) (h : ∀ b, ¬ K b → Sim K P1 P2 (k1 b) (k2 b) Φ) : Sim K P1 P2 (.new o k1) (.new o k2) Φ := by
  refine ⟨?_, fun v ht x v' es he => ?_⟩
  case refine_2 =>
    simp only [Sem.runT] at he
    obtain ⟨ht, w, hr⟩ := ht
    exact (h _ (fun hb => Nat.lt_irrefl _ (hr.low _ hb))).halts _ ⟨ht.new ho, _, hr.new o⟩ x v' es he
  intro v w hr ht r v' es he ha
  simp only [Sem.runT] at he ⊢
  rw [← hr.size]
  obtain ⟨w', a1, r1, t1, g1, d1, e1, p1⟩ := (h v.heap.size (fun hb => Nat.lt_irrefl _ (hr.low _ hb))).ok _ _ (hr.new o) (ht.new ho) r v' es he ha
  refine ⟨w', a1, r1, t1, (Grow.new v o).trans g1, d1.of (fun b hb => ?_) rfl rfl rfl rfl rfl rfl rfl, e1, p1⟩
  have h1 := hr.low b hb
  have h2 := hr.size
  simp only [Array.getElem?_push]
  rw [if_neg (by omega), if_neg (by omega)]
  exact ⟨rfl, rfl⟩

/-- The shape of a place: the same, but for the number of a row's cells where the view holds none. -/
theorem Sim.shape {b : Nat} {k1 k2 : Option (TypeId × Nat) → Sem α} {Φ : α → Prop} (h0 : Sim K P1 P2 (k1 none) (k2 none) Φ) (h1 : ∀ e n m, (m = n ∨ m = 0) → Sim K P1 P2 (k1 (some (e, m))) (k2 (some (e, n))) Φ) :
    Sim K P1 P2 (.shape b k1) (.shape b k2) Φ := by
  refine ⟨?_, fun v ht x v' es he => ?_⟩
  case refine_2 =>
    simp only [Sem.runT] at he
    cases hs : v.shape? b with
    | none => rw [hs] at he; exact h0.halts v ht x v' es he
    | some s => rw [hs] at he; exact (h1 s.1 s.2 s.2 (.inl rfl)).halts v ht x v' es he
  intro v w hr ht r v' es he ha
  simp only [Sem.runT] at he ⊢
  have key : (v.shape? b = none ∧ w.shape? b = none) ∨ ∃ e n m, (m = n ∨ m = 0) ∧ v.shape? b = some (e, m) ∧ w.shape? b = some (e, n) := by
    by_cases hk : K b
    · obtain ⟨o, o', ho, ho', hd⟩ := hr.dim _ hk
      unfold World.shape?
      rw [ho, ho']
      cases hd with
      | empty c e fr => exact .inr ⟨e, c.size, 0, .inr rfl, rfl, rfl⟩
      | froz c e fr => exact .inr ⟨e, c.size, c.size, .inl rfl, rfl, rfl⟩
      | keep o hk2 => cases o <;> simp at hk2 <;> exact .inl ⟨rfl, rfl⟩
      | _ => exact .inl ⟨rfl, rfl⟩
    · have e : v.shape? b = w.shape? b := by unfold World.shape?; rw [hr.same _ hk]
      rw [e]
      rcases w.shape? b with _ | ⟨e, n⟩
      · exact .inl ⟨rfl, rfl⟩
      · exact .inr ⟨e, n, n, .inl rfl, rfl, rfl⟩
  rcases key with ⟨hv, hw⟩ | ⟨e, n, m, hm, hv, hw⟩
  · rw [hv] at he; rw [hw]
    exact h0.ok v w hr ht r v' es he ha
  · rw [hv] at he; rw [hw]
    exact (h1 _ _ _ hm).ok v w hr ht r v' es he ha

/-- What may stand at a block in the view and in truth. -/
def At2 (K : Nat → Prop) (b : Nat) (o o' : Obj) : Prop := (¬ K b ∧ o = o') ∨ (K b ∧ Dim o o')

theorem Sim.getObj {b : Nat} {k1 k2 : Obj → Sem α} {Φ : α → Prop} (h : ∀ o o', At2 K b o o' → tameObj o → (∀ c e fr, o ≠ .cells c e fr) → Sim K P1 P2 (k1 o) (k2 o') Φ) : Sim K P1 P2 (.getObj b k1) (.getObj b k2) Φ := by
  have two : ∀ v w, Rel K v w → ∀ o, v.heap[b]? = some o → ∃ o', w.heap[b]? = some o' ∧ At2 K b o o' := by
    intro v w hr o ho
    by_cases hk : K b
    · obtain ⟨x, x', hx, hx', hd⟩ := hr.dim _ hk
      rw [ho] at hx
      cases hx
      exact ⟨x', hx', .inr ⟨hk, hd⟩⟩
    · exact ⟨o, by rw [← hr.same _ hk, ho], .inl ⟨hk, rfl⟩⟩
  refine ⟨?_, fun v ht x v' es he => ?_⟩
  case refine_2 =>
    simp only [Sem.runT] at he
    split at he
    · cases he; exact ⟨trivial, ht.1⟩
    · rename_i o hn ho
      obtain ⟨es2, he2⟩ := halt_pre he
      obtain ⟨w, hr⟩ := ht.2
      obtain ⟨o', _, h2⟩ := two v w hr o ho
      exact (h o o' h2 (ht.1 _ _ ho) (fun c e fr => hn c e fr)).halts v ht x v' es2 he2
    · cases he; exact ⟨trivial, ht.1⟩
  intro v w hr ht r v' es he ha
  simp only [Sem.runT] at he ⊢
  split at he
  · cases he
  · rename_i o hn ho
    obtain ⟨o', ho', h2⟩ := two v w hr o ho
    rw [ho']
    have hch : o.isChan = o'.isChan := by
      rcases h2 with ⟨_, rfl⟩ | ⟨_, hd⟩
      · rfl
      · cases hd <;> rfl
    have hc' : ∀ c e fr, o' ≠ .cells c e fr := by
      intro c e fr hc
      rcases h2 with ⟨_, rfl⟩ | ⟨_, hd⟩
      · exact hn _ _ _ hc
      · cases hd with
        | empty => exact hn _ _ _ rfl
        | froz => exact hn _ _ _ rfl
        | keep o hk2 => subst hc; simp at hk2
        | _ => cases hc
    rw [runT_pre] at he
    simp only [Prod.mk.injEq] at he
    obtain ⟨hk, rfl⟩ := he
    obtain ⟨w', a1, r1, t1, g1, d1, e1, p1⟩ := (h o o' h2 (ht _ _ ho) (fun c e fr => hn c e fr)).ok v w hr ht r v' _ (Prod.ext hk rfl) ha
    refine ⟨w', ?_, r1, t1, g1, d1, fun e he => ?_, p1⟩
    · split
      · rename_i hx; cases hx; exact absurd rfl (hc' _ _ _)
      · rename_i hx
        cases hx
        rw [runT_pre, a1, hch]
      · rename_i hx; cases hx
    · rcases Array.mem_append.1 he with h' | h'
      · simp only [Array.mem_push, Array.not_mem_empty, false_or] at h'
        subst h'
        exact EvOK.grow (v := v) ⟨⟨o, ho, fun c e fr => hn c e fr⟩, fun e => by cases e⟩ g1
      · exact e1 e h'
  · cases he

theorem Sim.setObj {b : Nat} (hb : ¬ K b) {o : Obj} {k1 k2 : Sem α} {Φ : α → Prop} (ho : tameObj o) (hn : ∀ c e fr, o ≠ .cells c e fr) (h : Sim K P1 P2 k1 k2 Φ) : Sim K P1 P2 (.setObj b o k1) (.setObj b o k2) Φ := by
  refine ⟨?_, fun v ht x v' es he => ?_⟩
  case refine_2 =>
    simp only [Sem.runT] at he
    split at he
    · cases he; exact ⟨trivial, ht.1⟩
    · obtain ⟨es2, he2⟩ := halt_pre he
      exact h.halts _ (ht.set hb ho) x v' es2 he2
    · cases he; exact ⟨trivial, ht.1⟩
  intro v w hr ht r v' es he ha
  simp only [Sem.runT] at he ⊢
  split at he
  · cases he
  · rename_i x hx hox
    rw [← hr.same _ hb, hox]
    have hg : Grow v { v with heap := v.heap.setIfInBounds b o } := Grow.set hox (by cases x <;> first | exact fun c e fr => hn c e fr | exact absurd rfl (hx _ _ _)) _ _ _ _
    rw [runT_pre] at he
    simp only [Prod.mk.injEq] at he
    obtain ⟨hk, rfl⟩ := he
    obtain ⟨w', a1, r1, t1, g1, d1, e1, p1⟩ := h.ok { v with heap := v.heap.setIfInBounds b o } { w with heap := w.heap.setIfInBounds b o } (hr.set hb _ _ _ _ _ _ _) (ht.set ho _ _ _ _) r v' _ (Prod.ext hk rfl) ha
    refine ⟨w', ?_, r1, t1, hg.trans g1, d1.of (kept_set hb _) rfl rfl rfl rfl rfl rfl rfl, fun e he => ?_, p1⟩
    · split
      · rename_i hy; cases hy; exact absurd rfl (hx _ _ _)
      · rename_i hy
        cases hy
        rw [runT_pre, a1]
      · rename_i hy; cases hy
    · rcases Array.mem_append.1 he with h' | h'
      · simp only [Array.mem_push, Array.not_mem_empty, false_or] at h'
        subst h'
        exact EvOK.grow (v := v) ⟨⟨x, hox, fun c e fr => hx c e fr⟩, fun _ => hb⟩ (hg.trans g1)
      · exact e1 e h'
  · cases he

theorem Sim.choose {q : Question} {k1 k2 : Nat → Sem α} {Φ : α → Prop} (h : ∀ n, Sim K P1 P2 (k1 n) (k2 n) Φ) : Sim K P1 P2 (.choose q k1) (.choose q k2) Φ := by
  refine ⟨?_, fun v ht x v' es he => ?_⟩
  case refine_2 =>
    simp only [Sem.runT] at he
    split at he
    · exact (h _).halts v ht x v' es he
    · obtain ⟨ht, w, hr⟩ := ht
      exact (h _).halts { v with drawn := v.drawn + 1 } ⟨ht, w, ⟨hr.size, hr.low, hr.same, hr.dim, hr.os⟩⟩ x v' es he
  intro v w hr ht r v' es he ha
  simp only [Sem.runT] at he ⊢
  split at he
  · rename_i hq
    simp only [hq, if_true]
    exact (h _).ok v w hr ht r v' es he ha
  · rename_i hq
    simp only [hq]
    have m := run_drawn _ _ _ _ he
    simp only at m
    have e0 := ha 0 (by have := m.1; omega) q
    simp only [Nat.add_zero] at e0
    rw [← e0]
    obtain ⟨w', a1, r1, t1, g1, d1, e1, p1⟩ := (h _).ok { v with drawn := v.drawn + 1 } { w with drawn := w.drawn + 1 } ⟨hr.size, hr.low, hr.same, hr.dim, hr.os⟩ ht r v' es he (fun j hj q => by
      have := ha (1 + j) (by simp at hj; omega) q
      simp only
      rw [Nat.add_assoc, Nat.add_assoc]; exact this)
    refine ⟨w', a1, r1, t1, g1, ⟨d1.kept, d1.os, d1.out, d1.out', d1.tape, d1.tape', by have := d1.le; simp at this; omega, ?_⟩, e1, p1⟩
    have := d1.drawn
    have := d1.le
    simp at *
    omega

theorem Sim.noRoom {k1 k2 : Sem α} {Φ : α → Prop} (h : Sim K P1 P2 k1 k2 Φ) : Sim K P1 P2 (.mark .noRoom k1) (.mark .noRoom k2) Φ := by
  refine ⟨?_, fun v ht x v' es he => ?_⟩
  case refine_2 =>
    simp only [Sem.runT] at he
    obtain ⟨es2, he2⟩ := halt_pre he
    exact h.halts v ht x v' es2 he2
  intro v w hr ht r v' es he ha
  simp only [Sem.runT] at he ⊢
  rw [runT_pre] at he
  simp only [Prod.mk.injEq] at he
  obtain ⟨hk, rfl⟩ := he
  obtain ⟨w', a1, r1, t1, g1, d1, e1, p1⟩ := h.ok v w hr ht r v' _ (Prod.ext hk rfl) ha
  refine ⟨w', by rw [runT_pre, a1], r1, t1, g1, d1, fun e he => ?_, p1⟩
  rcases Array.mem_append.1 he with h' | h'
  · simp only [Array.mem_push, Array.not_mem_empty, false_or] at h'
    subst h'
    rfl
  · exact e1 e h'
end
end Go.Proofs.Ytpolipcicfjkiaa.Cy
