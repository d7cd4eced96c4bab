/- A view of the world, in which some blocks cannot be read, beside the real one: how the steps of an operation fare in both. Conditions: none. -/
import Derived.StepT
namespace Go.Proofs.Ytpolipcicfjkiaa.Cy
open Go

/-- The types whose values a quiet code may compare. -/
def Eqs.E (t : TypeId) : Bool := [3, 4, 22, 30, 34].contains t

/-! ### codes that a quiet goroutine may bear -/
def tameOp (o : Oper) : Bool :=
  match o.op with
  | .move _ | .assign _ | .pick _ _ _ | .alloc _ | .box _ _ | .build _ _ | .buildSlice _ _ _ | .load _ _ | .store _ _ _ | .nilCheck _ | .unOp _ _ _ | .makeFunc _ _ _
  | .fieldAddr _ _ _ | .indexAddr _ _ _ | .extract _ _ | .field _ _ _ => true
  | .binOp op t _ _ _ => match op with | .add | .sub | .mul | .lss | .leq | .gtr | .geq => true | .eql | .neq => Eqs.E t | _ => false
  | .call c => match c.callee with
    | .builtin b => match b with | .len | .append | .min | .max => true | _ => false
    | .value _ => true
    | .invoke _ _ => false
  | _ => false

def tameCode : Code → Bool
  | .skip | .exit _ | .ret | .refuse _ | .label _ => true
  | .region _ ops _ => ops.toList.all tameOp
  | .seq a b | .cond _ a b | .rangeFunc _ _ a b => tameCode a && tameCode b
  | .block _ c | .loop c => tameCode c
  | .scope _ | .goto _ => false

/-! ### worlds -/
/-- What stands in the view of a block that is kept from it, and what stands there in truth. -/
inductive Dim : Obj → Obj → Prop
  | empty (c : Array Value) (e : TypeId) (fr : Nat × Nat) : Dim (.cells #[] e fr) (.cells c e fr)
  | froz (c : Array Value) (e : TypeId) (fr : Nat × Nat) : Dim (.cells c e (0, c.size)) (.cells c e fr)
  | loop (l : Loop) : Dim (.coro none) (.loop l)
  | deferred (d : Option (List Deferred)) : Dim (.coro none) (.deferred d)
  | pending (c : Array Value) (e : TypeId) : Dim (.coro none) (.pending c e)
  | view (a b : Addr) (t u : TypeId) (h : a.spot.isSome = true) : Dim (.view a t) (.view b u)
  | keep (o : Obj) (h : (match o with | .cells .. | .loop _ | .deferred _ | .pending .. | .view .. => false | _ => true) = true) : Dim o o

/-- The view v of the world w; K: the blocks that are kept from it. -/
structure Rel (K : Nat → Prop) (v w : World) : Prop where
  size : v.heap.size = w.heap.size
  low : ∀ b, K b → b < v.heap.size
  same : ∀ b, ¬ K b → v.heap[b]? = w.heap[b]?
  dim : ∀ b, K b → ∃ o o', v.heap[b]? = some o ∧ w.heap[b]? = some o' ∧ Dim o o'
  os : v.os = w.os

def tameObj : Obj → Prop
  | .loop l => tameCode l.assign = true ∧ tameCode l.body = true ∧ ∀ c, l.pending = some c → tameCode c = true
  | .deferred (some (_ :: _)) => False
  | .pending _ _ => False
  | .view a _ => a.spot.isSome = true
  | _ => True

def Tidy (v : World) : Prop := ∀ (b : Nat) (o : Obj), v.heap[b]? = some o → tameObj o

/-- Rows of cells stay, as long as they were; so do other objects. -/
def Alike (o o' : Obj) : Prop :=
  match o with
  | .cells c _ _ => ∃ c' e' fr', o' = .cells c' e' fr' ∧ c'.size = c.size
  | _ => ∀ c' e' fr', o' ≠ .cells c' e' fr'
def Grow (v v' : World) : Prop :=
  v.heap.size ≤ v'.heap.size ∧ ∀ (b : Nat) (o : Obj), v.heap[b]? = some o → ∃ o', v'.heap[b]? = some o' ∧ Alike o o'

/-- What a step may list: a cell that the view holds, an object of another kind, a word that counts for nothing; no write of what is kept from it. -/
def EvOK (K : Nat → Prop) (v : World) (e : Event) : Prop :=
  match e.loc with
  | .cell a => (∃ x, v.cell? a = some x) ∧ (e.write = true → ¬ K a.block)
  | .obj r => (∃ o, v.heap[r]? = some o ∧ ∀ c t fr, o ≠ .cells c t fr) ∧ (e.write = true → ¬ K r)
  | .mark m => m = .noRoom
  | _ => False

/-- The tapes agree on the answers that the step takes. -/
def Agree (v v' w : World) : Prop := ∀ j, v.drawn + j < v'.drawn → ∀ q, v.tape (v.drawn + j) q = w.tape (w.drawn + j) q

structure Drew (K : Nat → Prop) (v v' w w' : World) : Prop where
  kept : ∀ b, K b → v'.heap[b]? = v.heap[b]? ∧ w'.heap[b]? = w.heap[b]?
  os : v'.os = v.os
  out : v'.output = v.output
  out' : w'.output = w.output
  tape : v'.tape = v.tape
  tape' : w'.tape = w.tape
  le : v.drawn ≤ v'.drawn
  drawn : w'.drawn = w.drawn + (v'.drawn - v.drawn)

/-- The ways to halt that lead on nowhere: a panic, or what the model does not follow. -/
def PlainHalt : Halt → Prop
  | .panic _ | .stuck _ => True
  | .unsupported (.initOrder _) => False
  | .unsupported _ => True
  | _ => False

/-- .. and leave the view tidy. -/
def HaltOK (h : Halt) (v : World) : Prop := PlainHalt h ∧ Tidy v

theorem Rel.refl (v : World) : Rel (fun _ => False) v v := ⟨rfl, fun _ h => h.elim, fun _ _ => rfl, fun _ h => h.elim, rfl⟩
theorem Agree.refl (v v' : World) : Agree v v' v := fun _ _ _ => rfl

theorem Grow.refl (v : World) : Grow v v := ⟨Nat.le_refl _, fun b o h => ⟨o, h, by cases o <;> simp [Alike]⟩⟩

theorem Grow.trans {a b c : World} (h : Grow a b) (k : Grow b c) : Grow a c := by
  refine ⟨Nat.le_trans h.1 k.1, fun i o ho => ?_⟩
  obtain ⟨o', ho', hm⟩ := h.2 i o ho
  obtain ⟨o'', ho'', hm'⟩ := k.2 i o' ho'
  refine ⟨o'', ho'', ?_⟩
  cases o with
  | cells x e fr =>
    obtain ⟨c', e', fr', rfl, hs⟩ := hm
    obtain ⟨c'', e'', fr'', rfl, hs'⟩ := hm'
    exact ⟨_, _, _, rfl, hs'.trans hs⟩
  | _ =>
    cases o' with
    | cells x e fr => exact absurd rfl (hm x e fr)
    | _ => exact hm'

theorem EvOK.grow {K : Nat → Prop} {v v' : World} {e : Event} (h : EvOK K v e) (g : Grow v v') : EvOK K v' e := by
  unfold EvOK at *
  cases hl : e.loc with
  | cell a =>
    rw [hl] at h
    obtain ⟨⟨x, hx⟩, hw⟩ := h
    refine ⟨?_, hw⟩
    unfold World.cell? at hx
    split at hx
    · rename_i c t fr ho
      split at hx
      · cases hx
      · rename_i hs
        obtain ⟨o', ho', c', e', fr', rfl, hsz⟩ := g.2 _ _ ho
        have hlt : a.off < c'.size := by rw [hsz]; exact (Array.getElem?_eq_some_iff.1 hx).1
        exact ⟨c'[a.off], by unfold World.cell?; rw [ho']; simp [hs, hlt]⟩
    · cases hx
  | obj r =>
    rw [hl] at h
    obtain ⟨⟨o, ho, hn⟩, hw⟩ := h
    refine ⟨?_, hw⟩
    obtain ⟨o', ho', hm⟩ := g.2 _ _ ho
    cases o with
    | cells c t fr => exact absurd rfl (hn c t fr)
    | _ => exact ⟨o', ho', hm⟩
  | mark m => rw [hl] at h; exact h
  | output => rw [hl] at h; exact h
  | goroutines => rw [hl] at h; exact h

theorem Drew.refl (K : Nat → Prop) (v w : World) : Drew K v v w w := ⟨fun _ _ => ⟨rfl, rfl⟩, rfl, rfl, rfl, rfl, rfl, Nat.le_refl _, by omega⟩

theorem Drew.trans {K : Nat → Prop} {a b c a' b' c' : World} (h : Drew K a b a' b') (k : Drew K b c b' c') : Drew K a c a' c' :=
  ⟨fun i hi => ⟨(k.kept i hi).1.trans (h.kept i hi).1, (k.kept i hi).2.trans (h.kept i hi).2⟩, k.os.trans h.os, k.out.trans h.out, k.out'.trans h.out', k.tape.trans h.tape, k.tape'.trans h.tape', Nat.le_trans h.le k.le, by have := h.le; have := k.le; rw [k.drawn, h.drawn]; omega⟩

/-! ### runs with what they list -/
theorem runT_pre {α : Type} (p : Program) (e : Sem α) (w : World) (es : Array Event) : e.runT p w es = ((e.runT p w #[]).1, es ++ (e.runT p w #[]).2) := by
  induction e generalizing w es with
  | pure a => simp only [Sem.runT, Array.append_empty]
  | load m a k ih =>
    simp only [Sem.runT]
    split
    · rw [ih, ih _ _ (#[].push _)]; simp
    · split
      · rw [ih, ih _ _ (#[] ++ _)]; simp
      · simp
  | store m a v k ih =>
    cases v <;> simp only [Sem.runT] <;> first
      | (simp; done)
      | (split
         · split
           · simp
           · rw [ih, ih _ (#[].push _)]; simp
         · split
           · rw [ih, ih _ (#[] ++ _)]; simp
           · simp)
  | new o k ih => simp only [Sem.runT]; rw [ih]
  | shape r k ih => simp only [Sem.runT]; rw [ih]
  | freeze a n k ih => simp only [Sem.runT]; rw [ih]
  | frozen a k ih => simp only [Sem.runT]; rw [ih]
  | getObj r k ih =>
    simp only [Sem.runT]
    split
    · simp
    · rw [ih, ih _ _ (#[].push _)]; simp
    · simp
  | setObj r o k ih =>
    simp only [Sem.runT]
    split
    · simp
    · rw [ih, ih _ (#[].push _)]; simp
    · simp
  | choose q k ih =>
    simp only [Sem.runT]
    split
    · rw [ih]
    · rw [ih]
  | sys c k ih => simp only [Sem.runT]; rw [ih, ih _ _ (#[].push _)]; simp
  | program k ih => simp only [Sem.runT]; rw [ih]
  | mark m k ih => simp only [Sem.runT]; rw [ih, ih (es := #[].push _)]; simp
  | halt h => simp only [Sem.runT, Array.append_empty]
end Go.Proofs.Ytpolipcicfjkiaa.Cy
