/- A region that draws its order: its reads are walked in the text's order between its loud operations (calls that make memory, allocations, stores), which wait for one another. Conditions: the plan is one that the region's edges bear out (asked by a Bool). -/
import Derived.Test.YtpolipcicfjkiaaRows
import Derived.WalkKit
import Derived.OrdersHeld
import Derived.BigQuiet
import Derived.Lib.QuietBelow
import Derived.Deep.RegionHeld3
import Derived.Test.YtpolipcicfjkiaaK28
import Derived.RangeFuncNested
import Derived.RangeFuncBound
import Derived.RangeFuncCalls
import Derived.RangeFuncLeaves
import Derived.RangeFuncBox
import Derived.OwnWalkIn
import Derived.TacticsInMore
import Derived.LoopNIn
import Derived.LoopIn
namespace Go.Proofs.Ytpolipcicfjkiaa
open Go.RowKit Go.Sort

/-- The worlds that come of 'w' by draws and new blocks. -/
abbrev Cls (w : World) : World → Prop := fun w' => ∃ p : Regrown, w' = grow (redrawn w p.d) p.os
theorem Cls.refl (w : World) : Cls w w := regrown_of_below (Below.refl _ _)
theorem Cls.below {w w' : World} (h : Cls w w') : Below w.heap.size w w' := by
  obtain ⟨p, rfl⟩ := h
  exact below_regrown w p.d p.os
theorem Cls.trans {a b c : World} (h : Below a.heap.size a b) (k : Cls b c) : Cls a c :=
  regrown_of_below (h.trans (k.below.mono h.size))

/-- An operation that hands back a value and no more. -/
def stillKind (o : Oper) : Bool :=
  match o.op with
  | .move _ | .assign _ | .pick .. | .load .. | .nilCheck _ | .binOp .. | .unOp .. | .fieldAddr .. | .field .. | .indexAddr .. | .index .. | .extract .. | .makeInterface .. | .slice .. | .build .. | .makeFunc .. | .convert .. | .lookup .. => true
  | .call { callee := .builtin b, .. } => match b with | .len | .cap | .min | .max => true | _ => false
  | _ => false

theorem value_of_bind {P : Program} {s : Sem Value} {w w' : World} {n : Next} (h : (do pure (Next.value (← s)) : Sem Next).run P w = .ok n w') : ∃ u, n = .value u := by
  rw [Sem.run_bind] at h
  cases hs : s.run P w with
  | ok u w1 => rw [hs] at h; simp [Result.andThen] at h; exact ⟨u, h.1.symm⟩
  | halt x w1 => rw [hs] at h; simp [Result.andThen] at h

theorem bind_value {α : Type} {P : Program} {s : Sem α} {f : α → Sem Next} (hf : ∀ x w w' n, (f x).run P w = .ok n w' → ∃ u, n = .value u) {w w' : World} {n : Next} (h : (s >>= f).run P w = .ok n w') : ∃ u, n = .value u := by
  rw [Sem.run_bind] at h
  cases hs : s.run P w with
  | ok u w1 => rw [hs] at h; exact hf _ _ _ _ h
  | halt x w1 => rw [hs] at h; simp [Result.andThen] at h

theorem stillKind_value {P : Program} {o : Oper} (hk : stillKind o = true) {ρ : Operand → Value} {w w' : World} {n : Next} (h : (execOp ρ o).run P w = .ok n w') : ∃ u, n = .value u := by
  obtain ⟨dst, op, ty, pos, aft, grd⟩ := o
  cases op <;> simp only [stillKind] at hk <;> first | (exact absurd hk (by decide)) | skip
  case move x => simp [execOp] at h; exact ⟨_, h.1.symm⟩
  case assign x => simp [execOp] at h; exact ⟨_, h.1.symm⟩
  case pick c a b =>
    simp only [execOp] at h
    rw [Sem.run_bind] at h
    cases hs : (asBool (ρ c)).run P w with
    | ok u w1 => rw [hs] at h; simp [Result.andThen] at h; exact ⟨_, h.1.symm⟩
    | halt x w1 => rw [hs] at h; simp [Result.andThen] at h
  case nilCheck x =>
    simp only [execOp] at h
    split at h
    · simp [runtimePanic] at h
    · simp [runtimePanic] at h
    · simp [runtimePanic] at h
    · split at h
      · simp [runtimePanic] at h
      · refine bind_value (fun p w1 w2 n h => ?_) h
        refine bind_value (fun b w1 w2 n h => ?_) h
        split at h
        · refine bind_value (fun b w1 w2 n h => ?_) h
          simp at h; exact ⟨_, h.1.symm⟩
        · simp at h; exact ⟨_, h.1.symm⟩
      · simp at h; exact ⟨_, h.1.symm⟩
    · simp at h; exact ⟨_, h.1.symm⟩
  case call c =>
    obtain ⟨callee, args, tys⟩ := c
    cases callee <;> simp only at hk <;> first | (exact absurd hk (by decide)) | skip
    rename_i b
    cases b <;> simp only at hk <;> first | (exact absurd hk (by decide)) | skip
    all_goals
      simp only [execOp, resolve, invoke, builtin, Sem.run_bind, Sem.run_pure, Result.andThen_ok] at h
      exact value_of_bind (by rw [Sem.run_bind]; exact h)
  all_goals exact value_of_bind h

/-- An operation that hands on a value it has: memory does not matter. -/
def pureKind (o : Oper) : Bool := match o.op with | .move _ | .assign _ | .extract .. => true | _ => false
def pureAt (ops : Array Oper) (i : Nat) : Bool := ((ops[i]?).map pureKind).getD false
theorem pureKind_any {P : Program} {o : Oper} (hk : pureKind o = true) {ρ : Operand → Value} {w w1 : World} {v : Value} (h : (execOp ρ o).run P w = .ok (.value v) w1) : ∀ w', (execOp ρ o).run P w' = .ok (.value v) w' := by
  obtain ⟨dst, op, ty, pos, aft, grd⟩ := o
  cases op <;> simp only [pureKind] at hk <;> first | (exact absurd hk (by decide)) | skip
  case move x => intro w'; simp [execOp] at h ⊢; exact h.1
  case assign x => intro w'; simp [execOp] at h ⊢; exact h.1
  case extract x i =>
    intro w'
    simp only [execOp, Instr.extract] at h ⊢
    cases hx : ρ x <;> rw [hx] at h <;> first | (simp [stuck] at h; done) | skip
    rename_i vs
    simp only at h ⊢
    cases hv : vs[i]? <;> rw [hv] at h <;> first | (simp [stuck] at h; done) | skip
    simp at h ⊢
    exact h.1

section
variable {P : Program} {ops : Array Oper} {Q : Exit → Act → World → Prop} {S : World → Prop} {k : Nat}

/-- What has come up, all it waits for has come up. -/
def Closed (ops : Array Oper) (listed : Array Bool) : Prop := ∀ m o, ops[m]? = some o → listed.getD m false = true → ∀ e ∈ o.after, Region.binds .any e = true → listed.getD e.on false = true
/-- Number i waits for number j, at once or through others. -/
def waits (ops : Array Oper) : Nat → Nat → Nat → Bool
  | 0, _, _ => false
  | n + 1, i, j => ((ops[i]?).map fun o => (o.after.any fun e => Region.binds .any e && e.on == j) || (o.after.any fun e => Region.binds .any e && waits ops n e.on j)).getD false
theorem getD_set {listed : Array Bool} {j m : Nat} (h : (listed.setIfInBounds j true).getD m false = true) : m = j ∨ listed.getD m false = true := by
  by_cases hjm : m = j
  · exact .inl hjm
  · refine .inr ?_
    simp only [Array.getD_eq_getD_getElem?, Array.getElem?_setIfInBounds] at h ⊢
    rw [if_neg (Ne.symm hjm)] at h
    exact h
theorem getD_set_mono {listed : Array Bool} {j m : Nat} (h : listed.getD m false = true) : (listed.setIfInBounds j true).getD m false = true := by
  simp only [Array.getD_eq_getD_getElem?, Array.getElem?_setIfInBounds] at h ⊢
  by_cases hjm : j = m
  · subst hjm
    rw [if_pos rfl]
    by_cases hl : j < listed.size
    · simp [hl]
    · rw [Array.getElem?_eq_none (by omega)] at h
      simp at h
  · rw [if_neg hjm]; exact h
theorem Closed.set {listed : Array Bool} (h : Closed ops listed) {j : Nat} (hj : j ∈ Region.ready .any ops listed) : Closed ops (listed.setIfInBounds j true) := by
  intro m o ho hm e he hb
  obtain ⟨_, o', ho', hall⟩ := mem_ready.1 hj
  rcases getD_set hm with rfl | hm
  · rw [ho] at ho'
    cases ho'
    exact getD_set_mono (hall e he hb)
  · exact getD_set_mono (h m o ho hm e he hb)
theorem Closed.start : Closed ops (Array.replicate ops.size false) := by
  intro m o ho hm
  simp only [Array.getD_eq_getD_getElem?, Array.getElem?_replicate] at hm
  split at hm <;> simp at hm
theorem waits_listed {listed : Array Bool} (h : Closed ops listed) : ∀ n m i, waits ops n m i = true → listed.getD m false = true → listed.getD i false = true
  | 0, m, i, hw, _ => by simp [waits] at hw
  | n + 1, m, i, hw, hm => by
    unfold waits at hw
    cases ho : ops[m]? with
    | none => rw [ho] at hw; simp at hw
    | some o =>
      rw [ho] at hw
      simp only [Option.map_some, Option.getD_some, Bool.or_eq_true] at hw
      rcases hw with hw | hw
      · obtain ⟨e, he, hb⟩ := Array.any_eq_true'.1 hw
        simp only [Bool.and_eq_true, beq_iff_eq] at hb
        rw [← hb.2]
        exact h m o ho hm e he hb.1
      · obtain ⟨e, he, hb⟩ := Array.any_eq_true'.1 hw
        simp only [Bool.and_eq_true] at hb
        exact waits_listed h n e.on i hb.2 (h m o ho hm e he hb.1)
theorem waits_ready {listed : Array Bool} (h : Closed ops listed) {n j i : Nat} (hj : j ∈ Region.ready .any ops listed) (hw : waits ops n j i = true) : listed.getD i false = true := by
  obtain ⟨_, o, ho, hall⟩ := mem_ready.1 hj
  cases n with
  | zero => simp [waits] at hw
  | succ n =>
    unfold waits at hw
    rw [ho] at hw
    simp only [Option.map_some, Option.getD_some, Bool.or_eq_true] at hw
    rcases hw with hw | hw
    · obtain ⟨e, he, hb⟩ := Array.any_eq_true'.1 hw
      simp only [Bool.and_eq_true, beq_iff_eq] at hb
      rw [← hb.2]
      exact hall e he hb.1
    · obtain ⟨e, he, hb⟩ := Array.any_eq_true'.1 hw
      simp only [Bool.and_eq_true] at hb
      exact waits_listed h n e.on i hb.2 (hall e he hb.1)
/-- The operations from number k on wait for all that stand ahead of number k, but for what hands on a value. -/
def tailOk (ops : Array Oper) (k : Nat) : Bool :=
  (List.range ops.size).all fun i => decide (i < k) || (List.range k).all fun j => pureAt ops j || waits ops ops.size i j
theorem tailOk_spec (h : tailOk ops k = true) {listed : Array Bool} (hc : Closed ops listed) {i j : Nat} (hi : i ∈ Region.ready .any ops listed) (hk : k ≤ i) (hj : j < k) (hp : pureAt ops j = false) : listed.getD j false = true := by
  obtain ⟨_, o, ho, _⟩ := mem_ready.1 hi
  have hi' : i < ops.size := (Array.getElem?_eq_some_iff.1 ho).1
  have h1 := List.all_eq_true.1 h i (List.mem_range.2 hi')
  simp only [Bool.or_eq_true, decide_eq_true_eq] at h1
  rcases h1 with h1 | h1
  · omega
  · have h2 := List.all_eq_true.1 h1 j (List.mem_range.2 hj)
    rw [hp, Bool.false_or] at h2
    exact waits_ready hc hi h2

/-- What is known behind an operation ahead of number k. -/
def Gd (ops : Array Oper) (S : World → Prop) (k i : Nat) (w w' : World) : Prop := i < k → (pureAt ops i = true → w' = w) ∧ (pureAt ops i = false → S w')
theorem Gd.stay {i : Nat} {w : World} (h : S w) : Gd ops S k i w w := fun _ => ⟨fun _ => rfl, fun _ => h⟩
theorem Gd.keep {i : Nat} {w w' : World} (h : Gd ops S k i w w') (hi : i < k) (hS : S w) : S w' := by
  cases hp : pureAt ops i
  · exact (h hi).2 hp
  · rw [(h hi).1 hp]; exact hS

/-- Whatever order is picked from here on; behind each operation ahead of number k the world meets S. -/
def wpAnyG (P : Program) (ops : Array Oper) (Q : Exit → Act → World → Prop) (S : World → Prop) (k : Nat) : Nat → Array Bool → Act → World → Prop
  | 0, listed, a, w => Region.ready .any ops listed = [] ∧ Q .normal a w
  | fuel + 1, listed, a, w => (Region.ready .any ops listed = [] → Q .normal a w) ∧
    ∀ i ∈ Region.ready .any ops listed, wpOp P ops Q i (fun a' w' => Gd ops S k i w w' ∧ wpAnyG P ops Q S k fuel (listed.setIfInBounds i true) a' w') a w
theorem wpAny_of_G : ∀ (fuel : Nat) (listed : Array Bool) (a : Act) (w : World), wpAnyG P ops Q S k fuel listed a w → wpAny P .any ops Q fuel listed a w
  | 0, _, _, _, h => h
  | fuel + 1, _, _, _, h => ⟨h.1, fun i hi => wpOp_mono (fun _ _ h' => wpAny_of_G fuel _ _ _ h'.2) (h.2 i hi)⟩
theorem wpAnyG_mono {S' : World → Prop} (h : ∀ w, S' w → S w) : ∀ (fuel : Nat) (listed : Array Bool) (a : Act) (w : World), wpAnyG P ops Q S' k fuel listed a w → wpAnyG P ops Q S k fuel listed a w
  | 0, _, _, _, hh => hh
  | fuel + 1, _, _, _, hh => ⟨hh.1, fun i hi => wpOp_mono (fun _ _ h' => ⟨fun hik => ⟨(h'.1 hik).1, fun hp => h _ ((h'.1 hik).2 hp)⟩, wpAnyG_mono h fuel _ _ _ h'.2⟩) (hh.2 i hi)⟩

theorem listed_of_ready {i j : Nat} {listed : Array Bool} {e : Edge} {o : Oper} (hi : i ∈ Region.ready .any ops listed) (hj : j ∈ Region.ready .any ops listed) (ho : ops[j]? = some o) (he : e ∈ o.after) (hb : Region.binds .any e = true) : e.on ≠ i := by
  intro heq
  obtain ⟨_, o', ho', hall⟩ := mem_ready.1 hj
  rw [ho] at ho'
  cases ho'
  have h1 := hall e he hb
  have h0 := (mem_ready.1 hi).1
  rw [heq] at h1
  rcases Nat.lt_or_ge i listed.size with h' | h'
  · simp [h'] at h0 h1; rw [h0] at h1; cases h1
  · simp [Array.getElem?_eq_none h'] at h1

/-- A read that may come up now may be taken first. -/
theorem wpAnyG_first {i : Nat} {oi : Oper} {v : Value} (hi : ops[i]? = some oi) (hsel : ∀ (j : Nat) (o : Oper) cs b, ops[j]? = some o → o.op ≠ .select cs b) (hik : i < k) (hnp : pureAt ops i = false) (htail : tailOk ops k = true)
    (hQ : ∀ c a w, Q (.panic c) (a.put oi.dst v) w → Q (.panic c) a w) :
    ∀ (fuel : Nat) (listed : Array Bool) (a : Act) (w : World),
      Closed ops listed → (∀ j oj, ops[j]? = some oj → j ≠ i → listed.getD j true = false → (∀ e ∈ oj.after, Region.binds .any e = true → e.on ≠ i) → oi.apart ops oj = true) →
      i ∈ Region.ready .any ops listed → YieldsIf P ops S oi v a → S w →
      wpAnyG P ops Q S k fuel (listed.setIfInBounds i true) (a.put oi.dst v) w → wpAnyG P ops Q S k (fuel + 1) listed a w := by
  intro fuel
  induction fuel with
  | zero =>
    intro listed a w _ _ hr hy hS H
    refine ⟨fun h => (by rw [h] at hr; cases hr), fun j hj => ?_⟩
    by_cases hji : j = i
    · subst hji; exact hy.wpOp hi hS ⟨Gd.stay hS, H⟩
    · have h1 := ready_mono hj hji
      rw [H.1] at h1
      cases h1
  | succ fuel ih =>
    intro listed a w hcl hfree hr hy hS H
    refine ⟨fun h => (by rw [h] at hr; cases hr), fun j hj => ?_⟩
    by_cases hji : j = i
    · subst hji; exact hy.wpOp hi hS ⟨Gd.stay hS, H⟩
    · obtain ⟨hjun, oj, hoj, hall⟩ := mem_ready.1 hj
      have hnot : ∀ e ∈ oj.after, Region.binds .any e = true → e.on ≠ i := fun e he hb => listed_of_ready hr hj hoj he hb
      have hjk : j < k := by
        rcases Nat.lt_or_ge j k with h | h
        · exact h
        · have h1 := tailOk_spec htail hcl hj h hik hnp
          have h2 := (mem_ready.1 hr).1
          rcases Nat.lt_or_ge i listed.size with h' | h'
          · simp [h'] at h1 h2; rw [h1] at h2; cases h2
          · simp [Array.getElem?_eq_none h'] at h2
      refine wpOp_mono (fun a' w' h3 => ?_) (wpOp_putIf hoj (hfree j oj hoj hji hjun hnot) (fun cs b => hsel i oi cs b hi) (fun cs b => hsel j oj cs b hoj) hQ hy (H.2 j (ready_mono hj hji)))
      have hS' := h3.2.1.keep hjk hS
      refine ⟨h3.2.1, ih (listed.setIfInBounds j true) a' w' (hcl.set hj) (fun m om hm hmi hmun hmno => ?_) (ready_mono hr (Ne.symm hji)) h3.1 hS' ?_⟩
      · refine hfree m om hm hmi ?_ hmno
        by_cases hjm : j = m
        · subst hjm; exact hjun
        · rw [getD_set_ne true hjm] at hmun; exact hmun
      · rw [Array.setIfInBounds_comm _ _ hji]
        exact h3.2.2
/-- What hands on a value may be taken first, whatever is written meanwhile. -/
theorem wpAnyG_pure {i : Nat} {oi : Oper} {v : Value} (hi : ops[i]? = some oi) (hsel : ∀ (j : Nat) (o : Oper) cs b, ops[j]? = some o → o.op ≠ .select cs b) (hp : pureAt ops i = true)
    (hQ : ∀ c a w, Q (.panic c) (a.put oi.dst v) w → Q (.panic c) a w) :
    ∀ (fuel : Nat) (listed : Array Bool) (a : Act) (w : World),
      (∀ j oj, ops[j]? = some oj → j ≠ i → listed.getD j true = false → (∀ e ∈ oj.after, Region.binds .any e = true → e.on ≠ i) → oi.apart ops oj = true) →
      i ∈ Region.ready .any ops listed → YieldsIf P ops (fun _ => True) oi v a →
      wpAnyG P ops Q S k fuel (listed.setIfInBounds i true) (a.put oi.dst v) w → wpAnyG P ops Q S k (fuel + 1) listed a w := by
  have stay : ∀ w, Gd ops S k i w w := fun w _ => ⟨fun _ => rfl, fun h => by rw [hp] at h; cases h⟩
  intro fuel
  induction fuel with
  | zero =>
    intro listed a w _ hr hy H
    refine ⟨fun h => (by rw [h] at hr; cases hr), fun j hj => ?_⟩
    by_cases hji : j = i
    · subst hji; exact hy.wpOp hi trivial ⟨stay w, H⟩
    · have h1 := ready_mono hj hji
      rw [H.1] at h1
      cases h1
  | succ fuel ih =>
    intro listed a w hfree hr hy H
    refine ⟨fun h => (by rw [h] at hr; cases hr), fun j hj => ?_⟩
    by_cases hji : j = i
    · subst hji; exact hy.wpOp hi trivial ⟨stay w, H⟩
    · obtain ⟨hjun, oj, hoj, hall⟩ := mem_ready.1 hj
      have hnot : ∀ e ∈ oj.after, Region.binds .any e = true → e.on ≠ i := fun e he hb => listed_of_ready hr hj hoj he hb
      refine wpOp_mono (fun a' w' h3 => ?_) (wpOp_putIf hoj (hfree j oj hoj hji hjun hnot) (fun cs b => hsel i oi cs b hi) (fun cs b => hsel j oj cs b hoj) hQ hy (H.2 j (ready_mono hj hji)))
      refine ⟨h3.2.1, ih (listed.setIfInBounds j true) a' w' (fun m om hm hmi hmun hmno => ?_) (ready_mono hr (Ne.symm hji)) h3.1 ?_⟩
      · refine hfree m om hm hmi ?_ hmno
        by_cases hjm : j = m
        · subst hjm; exact hjun
        · rw [getD_set_ne true hjm] at hmun; exact hmun
      · rw [Array.setIfInBounds_comm _ _ hji]
        exact h3.2.2
end

/-- The plan: which reads come next (each may come up, and nobody who could come ahead of it touches its temporaries). -/
def readsOk (ops : Array Oper) (k : Nat) : List Nat → Array Bool → Option (Array Bool)
  | [], listed => some listed
  | i :: rest, listed =>
    if (Region.ready .any ops listed).contains i && Region.free .any ops listed i && ((ops[i]?).map stillKind).getD false && (decide (i < k) || pureAt ops i) then readsOk ops k rest (listed.setIfInBounds i true) else none
/-- The last operations, one behind the other. -/
def endOk (ops : Array Oper) : List Nat → Array Bool → Bool
  | [], listed => Region.ready .any ops listed == []
  | i :: rest, listed => Region.ready .any ops listed == [i] && endOk ops rest (listed.setIfInBounds i true)
/-- Segments: some reads, then one loud operation that alone may come up; then reads; then the last operations. -/
def planOk (ops : Array Oper) (k : Nat) : List (List Nat × Nat) → List Nat → List Nat → Array Bool → Bool
  | [], last, tail, listed => match readsOk ops k last listed with
    | some l => endOk ops tail l
    | none => false
  | (st, l) :: rest, last, tail, listed => match readsOk ops k st listed with
    | some l' => Region.ready .any ops l' == [l] && !pureAt ops l && planOk ops k rest last tail (l'.setIfInBounds l true)
    | none => false

section
variable {P : Program} {ops : Array Oper} {Q : Act → World → Prop} {k : Nat}
def opsAt (ops : Array Oper) (l : List Nat) : List Oper := l.filterMap fun i => ops[i]?

/-- The loud operation number l comes up. -/
def wpLoud (P : Program) (ops : Array Oper) (Q : Act → World → Prop) (l : Nat) (K : Act → World → Prop) (a : Act) (w : World) : Prop :=
  match ops[l]? with
  | none => False
  | some o => if Region.wanted o (yielded ops a.tmps) then o.wp P a w K (Exit.then Q (fun _ _ _ => False)) else K (a.put o.dst undef) w

/-- What is to be shown: the reads, in every world that comes of the one at hand; each loud operation in the world at hand; the last operations one behind the other. -/
def segRun (P : Program) (ops : Array Oper) (Q : Act → World → Prop) : List (List Nat × Nat) → List Nat → List Nat → Act → World → Prop
  | [], last, tail, a, w => wpQuiet P ops (Cls w) (fun a' => wpList P ops (Exit.then Q (fun _ _ _ => False)) (opsAt ops tail) a' w) (opsAt ops last) a
  | (st, l) :: rest, last, tail, a, w => wpQuiet P ops (Cls w) (fun a' => ∀ K : Act → World → Prop, (∀ a'' w'', Below w.heap.size w w'' → segRun P ops Q rest last tail a'' w'' → K a'' w'') → wpLoud P ops Q l K a' w) (opsAt ops st) a

theorem reads_step {w : World} {C : World → Prop} (hC : C w) {K : Act → Prop} (hs : Region.noSelect ops = true) (ht : tailOk ops k = true) :
    ∀ (st : List Nat) (listed l' : Array Bool) (fuel : Nat) (a : Act), Closed ops listed → readsOk ops k st listed = some l' →
      wpQuiet P ops C K (opsAt ops st) a → (∀ a', Closed ops l' → K a' → wpAnyG P ops (Exit.then Q (fun _ _ _ => False)) C k fuel l' a' w) →
      wpAnyG P ops (Exit.then Q (fun _ _ _ => False)) C k (fuel + st.length) listed a w := by
  intro st
  induction st with
  | nil => intro listed l' fuel a hcl h hq hk; simp only [readsOk, Option.some.injEq] at h; subst h; exact hk _ hcl hq
  | cons i st ih =>
    intro listed l' fuel a hcl h hq hk
    simp only [readsOk] at h
    split at h
    case isFalse => cases h
    rename_i hc
    simp only [Bool.and_eq_true, Bool.or_eq_true, decide_eq_true_eq] at hc
    obtain ⟨⟨⟨h1, h2⟩, h3⟩, h4⟩ := hc
    cases ho : ops[i]? with
    | none => rw [ho] at h3; simp at h3
    | some o =>
      rw [ho] at h3
      have h3 : stillKind o = true := by simpa using h3
      have e : opsAt ops (i :: st) = o :: opsAt ops st := by simp [opsAt, ho]
      rw [e] at hq
      have hir : i ∈ Region.ready .any ops listed := by simpa using h1
      show wpAnyG P ops (Exit.then Q (fun _ _ _ => False)) C k (fuel + st.length + 1) listed a w
      by_cases hw : Region.wanted o (yielded ops a.tmps) = true
      · unfold wpQuiet at hq
        rw [if_pos hw] at hq
        obtain ⟨v, hv, hn⟩ := hq
        have hval : ∀ w', C w' → (execOp a.eval o).run P w' = .ok (.value v) w' := fun w' hw' => by
          have hv' := hv w' hw'
          unfold Oper.quietAt at hv'
          cases hr : (execOp a.eval o).run P w' with
          | ok n w1 =>
            obtain ⟨u, rfl⟩ := stillKind_value h3 hr
            rw [hr] at hv'
            obtain ⟨e1, e2⟩ := hv'
            rw [e1, e2]
          | halt x w1 => rw [hr] at hv'; exact hv'.elim
        cases hp : pureAt ops i
        · rw [hp] at h4
          simp at h4
          exact wpAnyG_first ho (Region.noSelect_spec hs) h4 hp ht (fun _ _ _ h => h) _ _ _ _ hcl (Region.free_spec ho h2) hir (.inl ⟨hw, hval⟩) hC (ih _ _ fuel _ (hcl.set hir) h hn hk)
        · have hpk : pureKind o = true := by unfold pureAt at hp; rw [ho] at hp; simpa using hp
          exact wpAnyG_pure ho (Region.noSelect_spec hs) hp (fun _ _ _ h => h) _ _ _ _ (Region.free_spec ho h2) (by simpa using h1) (.inl ⟨hw, fun w' _ => pureKind_any hpk (hval w hC) w'⟩) (ih _ _ fuel _ (hcl.set hir) h hn hk)
      · unfold wpQuiet at hq
        rw [if_neg hw] at hq
        cases hp : pureAt ops i
        · rw [hp] at h4
          simp at h4
          exact wpAnyG_first ho (Region.noSelect_spec hs) h4 hp ht (fun _ _ _ h => h) _ _ _ _ hcl (Region.free_spec ho h2) hir (.inr ⟨by simpa using hw, rfl⟩) hC (ih _ _ fuel _ (hcl.set hir) h hq hk)
        · exact wpAnyG_pure ho (Region.noSelect_spec hs) hp (fun _ _ _ h => h) _ _ _ _ (Region.free_spec ho h2) (by simpa using h1) (.inr ⟨by simpa using hw, rfl⟩) (ih _ _ fuel _ (hcl.set hir) h hq hk)

theorem end_step {S : World → Prop} : ∀ (tail : List Nat) (listed : Array Bool) (a : Act) (w : World), endOk ops tail listed = true → (∀ i ∈ tail, k ≤ i ∧ i < ops.size) →
    wpList P ops (Exit.then Q (fun _ _ _ => False)) (opsAt ops tail) a w → wpAnyG P ops (Exit.then Q (fun _ _ _ => False)) S k tail.length listed a w := by
  intro tail
  induction tail with
  | nil => intro listed a w h _ hq; exact ⟨by simpa [endOk] using h, hq⟩
  | cons i tail ih =>
    intro listed a w h hk hq
    simp only [endOk, Bool.and_eq_true, beq_iff_eq] at h
    obtain ⟨hr, h⟩ := h
    obtain ⟨hki, hil⟩ := hk i (by simp)
    have ho : ops[i]? = some ops[i] := Array.getElem?_eq_getElem hil
    have e : opsAt ops (i :: tail) = ops[i] :: opsAt ops tail := by simp [opsAt, ho]
    rw [e] at hq
    refine ⟨fun h0 => (by rw [hr] at h0; cases h0), fun j hj => ?_⟩
    rw [hr, List.mem_singleton] at hj
    subst hj
    have key : ∀ a' w', wpList P ops (Exit.then Q (fun _ _ _ => False)) (opsAt ops tail) a' w' → Gd ops S k j w w' ∧ wpAnyG P ops (Exit.then Q (fun _ _ _ => False)) S k tail.length (listed.setIfInBounds j true) a' w' :=
      fun a' w' hh => ⟨fun hjk => absurd hjk (by omega), ih _ a' w' h (fun m hm => hk m (by simp [hm])) hh⟩
    unfold wpOp
    rw [ho]
    unfold wpList at hq
    simp only
    split
    · rename_i hw
      rw [if_pos hw] at hq
      rcases hq with hq | hq
      · exact .inl (Oper.wp_mono key hq)
      · exact .inr hq
    · rename_i hw
      rw [if_neg hw] at hq
      exact key _ _ hq

theorem seg_any (hs : Region.noSelect ops = true) (ht : tailOk ops k = true) : ∀ (segs : List (List Nat × Nat)) (last tail : List Nat) (listed : Array Bool) (a : Act) (w : World), Closed ops listed → planOk ops k segs last tail listed = true → (∀ i ∈ tail, k ≤ i ∧ i < ops.size) →
    segRun P ops Q segs last tail a w → wpAnyG P ops (Exit.then Q (fun _ _ _ => False)) (Cls w) k ((segs.map fun s => s.1.length + 1).sum + last.length + tail.length) listed a w := by
  intro segs
  induction segs with
  | nil =>
    intro last tail listed a w hcl hp hk h
    simp only [planOk] at hp
    split at hp
    case h_2 => cases hp
    rename_i l hl
    have := reads_step (Q := Q) (Cls.refl w) hs ht last listed l tail.length a hcl hl h (fun a' _ ha' => end_step tail l a' w hp hk ha')
    simpa [Nat.add_comm] using this
  | cons sg segs ih =>
    obtain ⟨st, l⟩ := sg
    intro last tail listed a w hcl hp hk h
    simp only [planOk] at hp
    split at hp
    case h_2 => cases hp
    rename_i l' hl
    simp only [Bool.and_eq_true, beq_iff_eq, Bool.not_eq_true'] at hp
    obtain ⟨⟨hr, hnp⟩, hp⟩ := hp
    have key := reads_step (Q := Q) (Cls.refl w) hs ht st listed l' ((segs.map fun s => s.1.length + 1).sum + last.length + tail.length + 1) a hcl hl h (fun a' hcl' ha' => ?_)
    · have e : ((((st, l) :: segs).map fun s => s.1.length + 1).sum + last.length + tail.length) = (segs.map fun s => s.1.length + 1).sum + last.length + tail.length + 1 + st.length := by
        simp only [List.map_cons, List.sum_cons]; omega
      rw [e]
      exact key
    · refine ⟨fun h0 => (by rw [hr] at h0; cases h0), fun i hi => ?_⟩
      have hir := hi
      rw [hr, List.mem_singleton] at hi
      subst hi
      have h2 := ha' (fun a' w' => Gd ops (Cls w) k i w w' ∧ wpAnyG P ops (Exit.then Q (fun _ _ _ => False)) (Cls w) k ((segs.map fun s => s.1.length + 1).sum + last.length + tail.length) (l'.setIfInBounds i true) a' w')
        (fun a'' w'' hb hh => ⟨fun _ => ⟨fun h => (by rw [hnp] at h; cases h), fun _ => regrown_of_below hb⟩, wpAnyG_mono (fun _ hc => Cls.trans hb hc) _ _ _ _ (ih last tail _ a'' w'' (hcl'.set hir) hp hk hh)⟩)
      unfold wpOp
      unfold wpLoud at h2
      cases ho : ops[i]? with
      | none => rw [ho] at h2; exact h2.elim
      | some o =>
        rw [ho] at h2
        simp only at h2 ⊢
        split
        · rename_i hw; rw [if_pos hw] at h2; exact .inl h2
        · rename_i hw; rw [if_neg hw] at h2; exact h2

theorem seg_next {st : List Nat} {l : Nat} {rest : List (List Nat × Nat)} {last tail : List Nat} {a : Act} {w : World}
    (h : wpQuiet P ops (fun w' => ∃ p : Regrown, w' = grow (redrawn w p.d) p.os) (fun a' => ∀ K : Act → World → Prop, (∀ a'' w'', Below w.heap.size w w'' → segRun P ops Q rest last tail a'' w'' → K a'' w'') → wpLoud P ops Q l K a' w) (opsAt ops st) a) :
    segRun P ops Q ((st, l) :: rest) last tail a w := h
theorem seg_last {last tail : List Nat} {a : Act} {w : World} (h : wpQuiet P ops (fun w' => ∃ p : Regrown, w' = grow (redrawn w p.d) p.os) (fun a' => wpList P ops (Exit.then Q (fun _ _ _ => False)) (opsAt ops tail) a' w) (opsAt ops last) a) : segRun P ops Q [] last tail a w := h
theorem loud_op {l : Nat} {o : Oper} {K : Act → World → Prop} {a : Act} {w : World} (ho : ops[l]? = some o) (hw : Region.wanted o (yielded ops a.tmps) = true) (h : o.wp P a w K (Exit.then Q (fun _ _ _ => False))) : wpLoud P ops Q l K a w := by
  unfold wpLoud; rw [ho]; simp only [hw, if_true]; exact h
theorem loud_skip {l : Nat} {o : Oper} {K : Act → World → Prop} {a : Act} {w : World} (ho : ops[l]? = some o) (hw : Region.wanted o (yielded ops a.tmps) = false) (h : K (a.put o.dst undef) w) : wpLoud P ops Q l K a w := by
  unfold wpLoud; rw [ho]; simp only [hw]; exact h

theorem wp_region_seg {id : Nat} {a : Act} {w : World} {R : Exit → Act → World → Prop} (segs : List (List Nat × Nat)) (last tail : List Nat) (k : Nat) (hm : P.follows .mixedOrders = true)
    (hp : (Region.noSelect ops && tailOk ops k && planOk ops k segs last tail (Array.replicate ops.size false) && tail.all (fun i => decide (k ≤ i) && decide (i < ops.size)) && decide ((segs.map fun s => s.1.length + 1).sum + last.length + tail.length = ops.size)) = true)
    (h : ∀ Q : Act → World → Prop, (∀ a w, R .normal a w → Q a w) → ∀ w', Below w.heap.size w w' → segRun P ops Q segs last tail a w') : (Code.region id ops true).wp P R a w := by
  simp only [Bool.and_eq_true, decide_eq_true_eq] at hp
  obtain ⟨⟨⟨⟨hs, ht⟩, hp⟩, hk⟩, he⟩ := hp
  have hk' : ∀ i ∈ tail, k ≤ i ∧ i < ops.size := fun i hi => by simpa using List.all_eq_true.1 hk i hi
  refine Code.wp_mono (Q := Exit.then (fun a w => R .normal a w) (fun _ _ _ => False)) (fun e a w hq => by cases e <;> first | exact hq | exact hq.elim) ?_
  refine wp_region_any hm (wpAny_of_G (S := Cls w.drew) (k := k) _ _ _ _ ?_)
  have key := seg_any hs ht segs last tail _ a w.drew Closed.start hp hk' (h _ (fun _ _ h => h) _ (Below.refl _ _).drew)
  rw [he] at key
  exact key
end
end Go.Proofs.Ytpolipcicfjkiaa
/- Walk of Average. -/
namespace Go.Proofs.Ytpolipcicfjkiaa
open Go.RowKit Go.Sort

/-- A fraction in lowest terms. -/
def redR (num den : Int) : Int × Int := (num / (Nat.gcd num.toNat den.toNat : Nat), den / (Nat.gcd num.toNat den.toNat : Nat))
/-- What Average returns. -/
def avgR (d : DLine) (f t : Int) : (Int × Int) × Int := if askE d (someOf d f t) = 0 then (redR (avgN d f.toNat t.toNat) (oddsOf d f.toNat t.toNat), 0) else ((0, 0), askE d (someOf d f t))
theorem sumI_pos : ∀ (l : List Int), l ≠ [] → (∀ x ∈ l, 1 ≤ x) → 1 ≤ sumI l
  | [], h, _ => absurd rfl h
  | [x], _, h => by have := h x (by simp); simp [sumI]; omega
  | x :: y :: l, _, h => by
    have h1 := h x (by simp)
    have h2 := sumI_pos (y :: l) (by simp) (fun z hz => h z (by simp at hz ⊢; right; exact hz))
    simp only [sumI] at h2 ⊢
    omega
theorem oddsOf_pos {d : DLine} (h : valid d = true) {f t : Nat} (hf : f < t) (ht : t ≤ d.odds.length) : 1 ≤ oddsOf d f t ∧ oddsOf d f t ≤ 63 := by
  have h3 := (valid_spec h).1
  have h2 := oddsOf_bd d f t (fun x hx => by have := (valid_spec h).2.2.2 x hx; omega)
  refine ⟨?_, by omega⟩
  refine sumI_pos _ ?_ (fun x hx => ((valid_spec h).2.2.2 x (List.mem_of_mem_drop (List.mem_of_mem_take hx))).1)
  intro he
  have := congrArg List.length he
  simp at this
  omega

end Go.Proofs.Ytpolipcicfjkiaa
/- The iterator slices.Backward over points: its contract. -/
namespace Go.Proofs.Ytpolipcicfjkiaa
open Go.RowKit Go.Sort
attribute [local go_sem] Oper.semAt_some

/-- What has come when k rounds are over: the numbers of the last k points, the last one first. -/
def bk (n k : Nat) : List (Fin n) := (List.finRange n).reverse.take k
theorem bk_succ (n k : Nat) (h : k < n) : bk n (k + 1) = bk n k ++ [⟨n - 1 - k, by omega⟩] := by
  unfold bk
  rw [List.take_succ_eq_append_getElem (by simpa using h)]
  congr 2
  simp [List.getElem_reverse]
theorem bk_length (n k : Nat) (h : k ≤ n) : (bk n k).length = k := by simp [bk, h]
def encP (ps : List Pt) (x : Fin ps.length) : Array Value := #[I ((x.1 : Nat) : Int), .agg #[I ps[x.1].lo, I ps[x.1].hi, I ps[x.1].cost]]

/-- What a round keeps: what lay below n₀, and the iterator's own box. -/
def KpB (n₀ Bs : Nat) (W W' : World) : Prop := Below n₀ W W' ∧ ∀ v, W.cell? ⟨Bs, 0, none⟩ = some v → W'.cell? ⟨Bs, 0, none⟩ = some v
theorem KpB.trans {n₀ Bs : Nat} {A B C : World} (h : KpB n₀ Bs A B) (k : KpB n₀ Bs B C) : KpB n₀ Bs A C := ⟨h.1.trans k.1, fun v hv => k.2 v (h.2 v hv)⟩
theorem KpB.putObj {n₀ Bs : Nat} {w : World} (hn : n₀ ≤ w.heap.size) (hB : Bs < w.heap.size) (W : World) (l : Nat) (o o' : Obj) (hl : w.heap.size ≤ l) (h : W.heap[l]? = some o) (ho : o.isCells = false) (hw : o.isWalk = false) : KpB n₀ Bs W (W.putObj l o') :=
  ⟨belowK_b hn W l o o' hl h ho hw, fun v hv => by
    rw [World.cell?_of_block (w := W) (World.putObj_heap_other (by show Bs ≠ l; omega))]; exact hv⟩

set_option maxRecDepth 100000 in
set_option maxHeartbeats 2000000 in
theorem back1_in (F : Fence) (n : Nat) (h8 : F.fn 81) (hro : F.round = none) (hn : 1 ≤ n) (l Bs n₀ b off cap : Nat) (ps : List Pt) (hlen : ps.length ≤ 1000) (hb : b < n₀) (J Jx : List (Fin ps.length) → World → Prop)
    (hY : ∀ pre x W, J pre W → pre.length < ps.length → YieldAt F (n - 1) PA.prog l (encP ps x) W fun e W' =>
      (e = .returned (.bool true) ∧ J (pre ++ [x]) W' ∧ KpB n₀ Bs W W') ∨ (e = .returned (.bool false) ∧ Jx (pre ++ [x]) W'))
    (W : World) (hBs : W.cell? ⟨Bs, 0, none⟩ = some (.slice (some ⟨b, off, none⟩) ps.length cap))
    (hc : ∀ j (hj : j < ps.length), W.cell? ⟨b, off + j * 3, none⟩ = some (I ps[j].lo) ∧ W.cell? ⟨b, off + j * 3 + 1, none⟩ = some (I ps[j].hi) ∧ W.cell? ⟨b, off + j * 3 + 2, none⟩ = some (I ps[j].cost)) (h0 : J [] W) :
    CallsIn F n PA.prog 81 #[.func (.yield l) #[] #[], .pointer (some ⟨Bs, 0, none⟩)] W fun e W' => (∃ v, e = .returned v) ∧
      ((∃ ys, ys = bk ps.length ps.length ∧ J ys W') ∨ (∃ pre, (∃ k, k ≤ ps.length ∧ pre = bk ps.length k) ∧ Jx pre W')) := by
  have HC := Lib.hid hc
  clear hc
  refine callsIn_of_wp PA.func81 rfl h8 ?_ hro
  simp only [Try.ntmps81, List.size_toArray, List.length_cons, List.length_nil, Nat.reduceAdd, Nat.reduceSub, Array.replicate_succ, Array.replicate_zero, List.push_toArray, List.append_toArray, List.nil_append, List.cons_append]
  gi_wp2
  gi_loopw [3] (fun i wr => ∃ k : Nat, k ≤ ps.length ∧ i = I ((ps.length : Int) - 1 - k) ∧ J (bk ps.length k) wr ∧ KpB n₀ Bs W wr)
    (fun i _ => (intOf i + 1).toNat)
  case atStart => exact ⟨0, Nat.zero_le _, by simp, h0, Below.refl _ _, fun _ h => h⟩
  case round =>
    obtain ⟨k, hk, rfl, hJs, hnx⟩ := hrel
    have hs := hnx.2 _ hBs
    by_cases hlt : k < ps.length
    · obtain ⟨i, hi⟩ : ∃ i : Nat, i = ps.length - 1 - k := ⟨_, rfl⟩
      have hil : i < ps.length := by omega
      have hic : ((ps.length : Int) - 1 - k) = (i : Int) := by omega
      rw [hic]
      obtain ⟨c1, c2, c3⟩ := HC.out i hil
      rw [← hnx.1.cell (p := ⟨b, _, none⟩) hb] at c1 c2 c3
      obtain ⟨fn, tmps, assign, body, hy, hR⟩ := hY _ ⟨i, hil⟩ wr hJs (by rw [bk_length _ _ hk]; exact hlt)
      dsimp only [encP] at hy
      have HI := Lib.hid hi
      have HIC := Lib.hid hic
      clear hi hic
      gi_wp2
      refine hR.mono ?_
      rintro e W3 (⟨rfl, hJ3, hk3⟩ | ⟨rfl, hJx3⟩)
      · gi_wp2
        go_roundw
        case rel => exact ⟨k + 1, by omega, by have := HI.out; congr 1; omega, by
          have e : (⟨i, hil⟩ : Fin ps.length) = ⟨ps.length - 1 - k, by omega⟩ := by simp [HI.out]
          rw [bk_succ _ _ hlt, ← e]; exact hJ3, hnx.trans hk3⟩
        case measure => first | (simp [intOf]; done) | (simp [intOf]; omega)
      · gi_wp2
        refine bodyPost_ret (results_none rfl _ _ _) rfl ?_
        exact ⟨⟨_, rfl⟩, .inr ⟨_, ⟨k + 1, by omega, by
          have e : (⟨i, hil⟩ : Fin ps.length) = ⟨ps.length - 1 - k, by omega⟩ := by simp [HI.out]
          rw [bk_succ _ _ hlt, ← e]⟩, hJx3⟩⟩
    · obtain rfl : k = ps.length := by omega
      gi_wp2
      go_end0
      exact ⟨⟨_, rfl⟩, .inl ⟨_, rfl, hJs⟩⟩

set_option maxHeartbeats 1000000 in
theorem back_any (A : Option Addr) (len cap : Nat) (w : World) :
    Calls PA.prog 56 #[.slice A len cap] w fun e w' => e = .returned (.func (.func 81) #[] #[.pointer (some ⟨w.heap.size, 0, none⟩)]) ∧ w' = w.alloc (.cells #[.slice A len cap] 25) := by
  go_enter PA.func56, Try.ntmps56
  go_wp2
  go_ret
  exact ⟨rfl, rfl⟩

/-- A call's walk, in the form that lets it range over a function. -/
theorem calls_of_wp_marks {P : Program} {f : FuncId} {fn : Func} {c : Code} {args : Array Value} {w : World} {R : Ending → World → Prop}
    (hf : P.funcs[f]? = some fn) (hb : fn.body = some c)
    (h : c.wp P (bodyPostM Fence.wide 5 P fn R) { tmps := args ++ Array.replicate (fn.ntmps - args.size) undef, defers := [] } w) : Calls P f args w R :=
  callsIn_wide.1 (callsIn_of_wp_marks (n := 5) hf hb trivial (wpIn_wide.2 h) rfl)

/-- The iterator over a line's points, at a loop body that keeps what lay below n₀. -/
theorem back_stops (Bs n₀ : Nat) (v : Value) (ps : List Pt) (hlen : ps.length ≤ 1000) (hpos : 0 < ps.length) (w : World) (hc : w.cell? ⟨Bs, 0, none⟩ = some v) (hI : Pts w v ps) (hb : ∀ b o n c, v = .slice (some ⟨b, o, none⟩) n c → b < n₀) :
    SeqStopsK Fence.wide 4 PA.prog 81 #[.pointer (some ⟨Bs, 0, none⟩)] (encP ps) (KpB n₀ Bs) (fun ys => ys = bk ps.length ps.length) (fun pre => ∃ k, k ≤ ps.length ∧ pre = bk ps.length k) ps.length w := fun l J Jx W hW _ _ hY h0 => by
  obtain ⟨A, cap, rfl, _, _, hcell⟩ := hI.open_
  obtain ⟨b, o, rfl, hbl, hcell⟩ := hcell hpos
  have hbn := hb b o _ _ rfl
  refine back1_in Fence.wide 4 trivial rfl (by omega) l Bs n₀ b o cap ps hlen hbn J Jx hY W (keep_cell hW hc) (fun j hj => ?_) h0
  obtain ⟨c1, c2, c3⟩ := hcell j hj
  exact ⟨keep_cell hW c1, keep_cell hW c2, keep_cell hW c3⟩
end Go.Proofs.Ytpolipcicfjkiaa
