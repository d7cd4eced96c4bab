/- A region that draws its order, some of whose operations hand on to a round of the caller's loop ('yield'): walked in stages, each up to such an operation. Conditions: the plans are such that the region's edges bear them out (asked by a Bool). -/
import Derived.Test.YtldcehhhndlhdaaGreatDoorC11
import Derived.RangeFuncSeq
namespace Go.Proofs.YtldcehhhndlhdaaGreatDoor
open Go.RowKit Go.Sort
section
variable {n : Nat} {P : Program} {ops : Array Oper} {Q : Exit → Act → World → Prop} {S : World → Prop} {k : Nat}
theorem yieldsIf_in {i : Nat} {o : Oper} {v : Value} {a : Act} (hi : ops[i]? = some o) (hy : YieldsIf P ops S o v a) {K : Act → World → Prop} {w : World} (hS : S w) (h : K (a.put o.dst v) w) : wpOpIn Fence.wide n P ops Q i K a w := by
  have hro : Fence.wide.round = none := rfl
  unfold wpOpIn
  simp only [hi]
  rcases hy with ⟨hw, hv⟩ | ⟨hw, rfl⟩
  · simp only [hw, if_true, Oper.wpIn, hro, Oper.semAt_none, hv w hS, Oper.uponIn]; exact ⟨fun _ _ => trivial, h⟩
  · simp only [hw, Bool.false_eq_true, if_false]; exact ⟨fun _ _ => trivial, h⟩
theorem wpOpIn_putIf {j : Nat} {oi oj : Oper} {v : Value} (hj : ops[j]? = some oj) (hap : oi.apart ops oj = true)
    (hsi : ∀ cs b, oi.op ≠ .select cs b) (hsj : ∀ cs b, oj.op ≠ .select cs b)
    (hQ : ∀ c a w, Q (.panic c) (a.put oi.dst v) w → Q (.panic c) a w) {K : Act → World → Prop} {a : Act} {w : World}
    (hy : YieldsIf P ops S oi v a) (h : wpOpIn Fence.wide n P ops Q j K (a.put oi.dst v) w) :
    wpOpIn Fence.wide n P ops Q j (fun a' w' => YieldsIf P ops S oi v a' ∧ K (a'.put oi.dst v) w') a w := by
  have hro : Fence.wide.round = none := rfl
  obtain ⟨h1, h2, h3⟩ := Oper.apart_spec hap
  have keep : ∀ (a : Act), YieldsIf P ops S oi v a → ∀ u, YieldsIf P ops S oi v (a.put oj.dst u) := fun a hy u =>
    hy.of_same (execOp_put oi hsi a oj.dst u h3) (wanted_put oi a oj.dst u h3)
  have keepD : ∀ d, YieldsIf P ops S oi v { a with defers := d :: a.defers } := fun d => hy.of_same rfl rfl
  unfold wpOpIn at *
  simp only [hj] at *
  rw [wanted_put oj a oi.dst v h1] at h
  split
  · rename_i hw
    simp only [hw, if_true] at h
    unfold Oper.wpIn at *
    refine ⟨fun _ _ => trivial, ?_⟩
    have h := h.2
    rw [hro, Oper.semAt_none, execOp_put oj hsj a oi.dst v h1] at h
    rw [hro, Oper.semAt_none]
    generalize (execOp a.eval oj).run P w = r at *
    cases r with
    | ok x w' =>
      cases x <;> simp only [Oper.uponIn] at h ⊢
      case value u => exact ⟨keep a hy u, by rw [← Act.put_comm a v u h2]; exact h⟩
      case skip => exact ⟨keep a hy _, by rw [← Act.put_comm a v undef h2]; exact h⟩
      case defer d =>
        refine ⟨keep _ (keepD d) _, ?_⟩
        rw [← Act.put_comm _ v undef h2, ← Act.put_defers]
        exact h
      case enter f args =>
        refine ⟨h.1, CallsIn.mono h.2 fun e w'' he => ?_⟩
        cases e with
        | returned u => exact ⟨keep a hy u, by rw [← Act.put_comm a v u h2]; exact he⟩
        | panicked c => exact hQ _ _ _ he
        | outgrown => exact he
      case row row args => exact ⟨h.1, RowsIn.mono h.2 fun u w'' he => ⟨keep a hy u, by rw [← Act.put_comm a v u h2]; exact he⟩⟩
      case round l f tmps assign body =>
        refine ⟨h.1, RoundIn.mono h.2 fun e w'' he => ?_⟩
        cases e with
        | returned u => exact ⟨keep a hy u, by rw [← Act.put_comm a v u h2]; exact he⟩
        | panicked c => exact hQ _ _ _ he
        | outgrown => exact he
    | halt x w' =>
      cases x <;> simp only [Oper.uponIn] at h ⊢
      case panic u => exact hQ _ _ _ h
  · rename_i hw
    simp only [hw] at h
    exact ⟨fun _ _ => trivial, keep a hy _, by rw [← Act.put_comm a v undef h2]; exact h.2⟩
/-- What each operation waits for, as bits: a list that the prover hands in, and that is asked after. -/
def edgeBits (A : List Nat) : List Edge → Nat
  | [] => 0
  | e :: l => (if Region.binds .any e then 2 ^ e.on ||| A.getD e.on 0 else 0) ||| edgeBits A l
def maskOk (ops : Array Oper) (A : List Nat) : Bool :=
  (List.range ops.size).all fun i => match ops[i]? with
    | none => true
    | some o => o.after.toList.all (fun e => !(Region.binds .any e) || decide (e.on < i)) && (A.getD i 0 &&& edgeBits A o.after.toList == A.getD i 0)
theorem edgeBits_spec {A : List Nat} {j : Nat} : ∀ {l : List Edge}, (edgeBits A l).testBit j = true → ∃ e ∈ l, Region.binds .any e = true ∧ (e.on = j ∨ (A.getD e.on 0).testBit j = true)
  | [], h => by simp [edgeBits] at h
  | e :: l, h => by
    unfold edgeBits at h
    rw [Nat.testBit_or, Bool.or_eq_true] at h
    rcases h with h | h
    · split at h
      · rename_i hb
        rw [Nat.testBit_or, Bool.or_eq_true, Nat.testBit_two_pow, decide_eq_true_eq] at h
        exact ⟨e, by simp, hb, h⟩
      · simp at h
    · obtain ⟨e', he, h1, h2⟩ := edgeBits_spec h
      exact ⟨e', List.mem_cons_of_mem _ he, h1, h2⟩
theorem mask_at {A : List Nat} (h : maskOk ops A = true) {i : Nat} {o : Oper} (ho : ops[i]? = some o) : (∀ e ∈ o.after, Region.binds .any e = true → e.on < i) ∧ ∀ j, (A.getD i 0).testBit j = true → ∃ e ∈ o.after, Region.binds .any e = true ∧ (e.on = j ∨ (A.getD e.on 0).testBit j = true) := by
  have h1 := List.all_eq_true.1 h i (List.mem_range.2 (Array.getElem?_eq_some_iff.1 ho).1)
  rw [ho] at h1
  simp only [Bool.and_eq_true, beq_iff_eq] at h1
  refine ⟨fun e he hb => ?_, fun j hj => ?_⟩
  · have h2 := List.all_eq_true.1 h1.1 e (by simpa using he)
    rw [hb] at h2
    simpa using h2
  · rw [← h1.2, Nat.testBit_and, Bool.and_eq_true] at hj
    obtain ⟨e, he, h3⟩ := edgeBits_spec hj.2
    exact ⟨e, by simpa using he, h3⟩
theorem mask_listed {A : List Nat} (h : maskOk ops A = true) {listed : Array Bool} (hc : Closed ops listed) : ∀ (n i : Nat), i < n → ∀ {j : Nat} {o : Oper}, ops[i]? = some o → listed.getD i false = true → (A.getD i 0).testBit j = true → listed.getD j false = true
  | 0, _, hn, _, _, _, _, _ => absurd hn (by omega)
  | n + 1, i, hn, j, o, ho, hl, hj => by
    obtain ⟨h1, h2⟩ := mask_at h ho
    obtain ⟨e, he, hb, hj⟩ := h2 j hj
    have hel := hc i o ho hl e he hb
    rcases hj with rfl | hj
    · exact hel
    · have hlt := h1 e he hb
      have hsz : i < ops.size := (Array.getElem?_eq_some_iff.1 ho).1
      exact mask_listed h hc n e.on (by omega) (Array.getElem?_eq_getElem (show e.on < ops.size by omega)) hel hj
/-- The operations from number k on wait for all that stand ahead of number k. -/
def tailAll (ops : Array Oper) (A : List Nat) (k : Nat) : Bool :=
  maskOk ops A && (List.range ops.size).all fun i => decide (i < k) || (A.getD i 0 &&& (2 ^ k - 1) == 2 ^ k - 1)
theorem tailAll_spec {A : List Nat} (h : tailAll ops A k = true) {listed : Array Bool} (hc : Closed ops listed) {i j : Nat} (hi : i ∈ Region.ready .any ops listed) (hk : k ≤ i) (hj : j < k) : listed.getD j false = true := by
  unfold tailAll at h
  rw [Bool.and_eq_true] at h
  obtain ⟨hm, h⟩ := h
  obtain ⟨_, o, ho, hall⟩ := mem_ready.1 hi
  have hi' : i < ops.size := (Array.getElem?_eq_some_iff.1 ho).1
  have h1 := List.all_eq_true.1 h i (List.mem_range.2 hi')
  simp only [Bool.or_eq_true, decide_eq_true_eq, beq_iff_eq] at h1
  rcases h1 with h1 | h1
  · omega
  · have hb : (A.getD i 0).testBit j = true := by
      have h2 : (2 ^ k - 1).testBit j = true := by rw [Nat.testBit_two_pow_sub_one]; simpa using hj
      rw [← h1, Nat.testBit_and, Bool.and_eq_true] at h2
      exact h2.1
    obtain ⟨h2, h3⟩ := mask_at hm ho
    obtain ⟨e, he, hbd, hj⟩ := h3 j hb
    have hel := hall e he hbd
    rcases hj with rfl | hj
    · exact hel
    · exact mask_listed hm hc (e.on + 1) e.on (by omega) (Array.getElem?_eq_getElem (show e.on < ops.size by have := h2 e he hbd; omega)) hel hj
/-- Whatever order is picked from here on; ahead of number k each operation keeps S. -/
def wpAnyY (n : Nat) (P : Program) (ops : Array Oper) (Q : Exit → Act → World → Prop) (S : World → Prop) (k : Nat) : Nat → Array Bool → Act → World → Prop
  | 0, listed, a, w => Region.ready .any ops listed = [] ∧ Q .normal a w
  | fuel + 1, listed, a, w => (Region.ready .any ops listed = [] → Q .normal a w) ∧
    ∀ i ∈ Region.ready .any ops listed, (i < k → wpOpIn Fence.wide n P ops Q i (fun a' w' => S w' ∧ wpAnyY n P ops Q S k fuel (listed.setIfInBounds i true) a' w') a w) ∧
      (¬ i < k → wpOpIn Fence.wide n P ops Q i (wpAnyIn Fence.wide n P .any ops Q fuel (listed.setIfInBounds i true)) a w)
theorem wpAnyIn_of_Y : ∀ (fuel : Nat) (listed : Array Bool) (a : Act) (w : World), wpAnyY n P ops Q S k fuel listed a w → wpAnyIn Fence.wide n P .any ops Q fuel listed a w
  | 0, _, _, _, h => h
  | fuel + 1, _, _, _, h => ⟨h.1, fun i hi => by
    by_cases hik : i < k
    · exact wpOpIn_mono (fun _ _ h' => wpAnyIn_of_Y fuel _ _ _ h'.2) ((h.2 i hi).1 hik)
    · exact (h.2 i hi).2 hik⟩
theorem wpAnyY_mono {S' : World → Prop} (h : ∀ w, S' w → S w) : ∀ (fuel : Nat) (listed : Array Bool) (a : Act) (w : World), wpAnyY n P ops Q S' k fuel listed a w → wpAnyY n P ops Q S k fuel listed a w
  | 0, _, _, _, hh => hh
  | fuel + 1, _, _, _, hh => ⟨hh.1, fun i hi => ⟨fun hik => wpOpIn_mono (fun _ _ h' => ⟨h _ h'.1, wpAnyY_mono h fuel _ _ _ h'.2⟩) ((hh.2 i hi).1 hik), (hh.2 i hi).2⟩⟩
/-- A read that may come up now may be taken first. -/
theorem wpAnyY_first {i : Nat} {oi : Oper} {v : Value} (hi : ops[i]? = some oi) (hsel : ∀ (j : Nat) (o : Oper) cs b, ops[j]? = some o → o.op ≠ .select cs b) (hik : i < k) {A : List Nat} (htail : tailAll ops A k = true)
    (hQ : ∀ c a w, Q (.panic c) (a.put oi.dst v) w → Q (.panic c) a w) :
    ∀ (fuel : Nat) (listed : Array Bool) (a : Act) (w : World),
      Closed ops listed → (∀ j oj, ops[j]? = some oj → j ≠ i → listed.getD j true = false → (∀ e ∈ oj.after, Region.binds .any e = true → e.on ≠ i) → oi.apart ops oj = true) →
      i ∈ Region.ready .any ops listed → YieldsIf P ops S oi v a → S w →
      wpAnyY n P ops Q S k fuel (listed.setIfInBounds i true) (a.put oi.dst v) w → wpAnyY n P ops Q S k (fuel + 1) listed a w := by
  intro fuel
  induction fuel with
  | zero =>
    intro listed a w _ _ hr hy hS H
    refine ⟨fun h => (by rw [h] at hr; cases hr), fun j hj => ?_⟩
    by_cases hji : j = i
    · subst hji; exact ⟨fun _ => yieldsIf_in hi hy hS ⟨hS, H⟩, fun h => absurd hik h⟩
    · have h1 := ready_mono hj hji
      rw [H.1] at h1
      cases h1
  | succ fuel ih =>
    intro listed a w hcl hfree hr hy hS H
    refine ⟨fun h => (by rw [h] at hr; cases hr), fun j hj => ?_⟩
    by_cases hji : j = i
    · subst hji; exact ⟨fun _ => yieldsIf_in hi hy hS ⟨hS, H⟩, fun h => absurd hik h⟩
    · obtain ⟨hjun, oj, hoj, hall⟩ := mem_ready.1 hj
      have hnot : ∀ e ∈ oj.after, Region.binds .any e = true → e.on ≠ i := fun e he hb => listed_of_ready hr hj hoj he hb
      have hjk : j < k := by
        rcases Nat.lt_or_ge j k with h | h
        · exact h
        · have h1 := tailAll_spec htail hcl hj h hik
          have h2 := (mem_ready.1 hr).1
          rcases Nat.lt_or_ge i listed.size with h' | h'
          · simp [h'] at h1 h2; rw [h1] at h2; cases h2
          · simp [Array.getElem?_eq_none h'] at h2
      refine ⟨fun _ => ?_, fun h => absurd hjk h⟩
      refine wpOpIn_mono (fun a' w' h3 => ?_) (wpOpIn_putIf hoj (hfree j oj hoj hji hjun hnot) (fun cs b => hsel i oi cs b hi) (fun cs b => hsel j oj cs b hoj) hQ hy ((H.2 j (ready_mono hj hji)).1 hjk))
      have hS' := h3.2.1
      refine ⟨h3.2.1, ih (listed.setIfInBounds j true) a' w' (hcl.set hj) (fun m om hm hmi hmun hmno => ?_) (ready_mono hr (Ne.symm hji)) h3.1 hS' ?_⟩
      · refine hfree m om hm hmi ?_ hmno
        by_cases hjm : j = m
        · subst hjm; exact hjun
        · rw [getD_set_ne true hjm] at hmun; exact hmun
      · rw [Array.setIfInBounds_comm _ _ hji]
        exact h3.2.2
def setAll (listed : Array Bool) (l : List Nat) : Array Bool := l.foldl (fun L i => L.setIfInBounds i true) listed
def readsY (ops : Array Oper) (k : Nat) : List Nat → Array Bool → Bool
  | [], _ => true
  | i :: rest, listed => ((Region.ready .any ops listed).contains i && Region.free .any ops listed i && ((ops[i]?).map stillKind).getD false && decide (i < k)) && readsY ops k rest (listed.setIfInBounds i true)
def planY (ops : Array Oper) (k : Nat) : List (List Nat × Nat) → List Nat → Nat → Array Bool → Bool
  | [], last, l, listed => readsY ops k last listed && (Region.ready .any ops (setAll listed last) == [l] && decide (k ≤ l))
  | (st, l0) :: rest, last, l, listed => readsY ops k st listed && (Region.ready .any ops (setAll listed st) == [l0] && decide (l0 < k) && planY ops k rest last l ((setAll listed st).setIfInBounds l0 true))
end
section
variable {n : Nat} {P : Program} {ops : Array Oper} {Q : Act → World → Prop} {k : Nat}
/-- The loud operation number l comes up. -/
def wpLoudY (n : Nat) (P : Program) (ops : Array Oper) (Q : Act → World → Prop) (l : Nat) (K : Act → World → Prop) (a : Act) (w : World) : Prop :=
  match ops[l]? with
  | none => False
  | some o => if Region.wanted o (yielded ops a.tmps) then o.wpIn Fence.wide n P a w K (Exit.then Q (fun _ _ _ => False)) else K (a.put o.dst undef) w
/-- One stage: as segRun, up to the operation number l, behind which the next stage begins. -/
def stageRun (n : Nat) (P : Program) (ops : Array Oper) (Q : Act → World → Prop) (last : List Nat) (l fuel : Nat) : List (List Nat × Nat) → Array Bool → Act → World → Prop
  | [], listed, a, w => wpQuiet P ops (Cls w) (fun a' => ∀ K : Act → World → Prop, (∀ a'' w'', wpAnyIn Fence.wide n P .any ops (Exit.then Q (fun _ _ _ => False)) fuel ((setAll listed last).setIfInBounds l true) a'' w'' → K a'' w'') → wpLoudY n P ops Q l K a' w) (opsAt ops last) a
  | (st, l0) :: rest, listed, a, w => wpQuiet P ops (Cls w) (fun a' => ∀ K : Act → World → Prop, (∀ a'' w'', Below w.heap.size w w'' → stageRun n P ops Q last l fuel rest ((setAll listed st).setIfInBounds l0 true) a'' w'' → K a'' w'') → wpLoudY n P ops Q l0 K a' w) (opsAt ops st) a
theorem readsY_step {w : World} {C : World → Prop} (hC : C w) {K : Act → Prop} (hs : Region.noSelect ops = true) {A : List Nat} (ht : tailAll ops A k = true) :
    ∀ (st : List Nat) (listed : Array Bool) (fuel : Nat) (a : Act), Closed ops listed → readsY ops k st listed = true →
      wpQuiet P ops C K (opsAt ops st) a → (∀ a', Closed ops (setAll listed st) → K a' → wpAnyY n P ops (Exit.then Q (fun _ _ _ => False)) C k fuel (setAll listed st) a' w) →
      wpAnyY n P ops (Exit.then Q (fun _ _ _ => False)) C k (fuel + st.length) listed a w := by
  intro st
  induction st with
  | nil => intro listed fuel a hcl h hq hk; exact hk _ hcl hq
  | cons i st ih =>
    intro listed fuel a hcl h hq hk
    simp only [readsY, Bool.and_eq_true, decide_eq_true_eq] at h
    obtain ⟨⟨⟨⟨h1, h2⟩, h3⟩, h4⟩, h⟩ := h
    cases ho : ops[i]? with
    | none => rw [ho] at h3; simp at h3
    | some o =>
      rw [ho] at h3
      have h3 : stillKind o = true := by simpa using h3
      have e : opsAt ops (i :: st) = o :: opsAt ops st := by simp [opsAt, ho]
      rw [e] at hq
      have hir : i ∈ Region.ready .any ops listed := by simpa using h1
      show wpAnyY n P ops (Exit.then Q (fun _ _ _ => False)) C k (fuel + st.length + 1) listed a w
      by_cases hw : Region.wanted o (yielded ops a.tmps) = true
      · unfold wpQuiet at hq
        rw [if_pos hw] at hq
        obtain ⟨v, hv, hn⟩ := hq
        have hval : ∀ w', C w' → (execOp a.eval o).run P w' = .ok (.value v) w' := fun w' hw' => by
          have hv' := hv w' hw'
          unfold Oper.quietAt at hv'
          cases hr : (execOp a.eval o).run P w' with
          | ok n w1 =>
            obtain ⟨u, rfl⟩ := stillKind_value h3 hr
            rw [hr] at hv'
            obtain ⟨e1, e2⟩ := hv'
            rw [e1, e2]
          | halt x w1 => rw [hr] at hv'; exact hv'.elim
        exact wpAnyY_first ho (Region.noSelect_spec hs) h4 ht (fun _ _ _ h => h) _ _ _ _ hcl (Region.free_spec ho h2) hir (.inl ⟨hw, hval⟩) hC (ih _ fuel _ (hcl.set hir) h hn hk)
      · unfold wpQuiet at hq
        rw [if_neg hw] at hq
        exact wpAnyY_first ho (Region.noSelect_spec hs) h4 ht (fun _ _ _ h => h) _ _ _ _ hcl (Region.free_spec ho h2) hir (.inr ⟨by simpa using hw, rfl⟩) hC (ih _ fuel _ (hcl.set hir) h hq hk)
theorem loudY_op {K : Act → World → Prop} {a : Act} {w : World} {i : Nat} (h : wpLoudY n P ops Q i K a w) : wpOpIn Fence.wide n P ops (Exit.then Q (fun _ _ _ => False)) i K a w := by
  unfold wpLoudY at h
  unfold wpOpIn
  cases ho : ops[i]? with
  | none => rw [ho] at h; exact h.elim
  | some o =>
    rw [ho] at h
    simp only at h ⊢
    split
    · rename_i hw; rw [if_pos hw] at h; exact h
    · rename_i hw; rw [if_neg hw] at h; exact ⟨fun _ _ => trivial, h⟩
theorem stage_any (hs : Region.noSelect ops = true) {A : List Nat} (ht : tailAll ops A k = true) (last : List Nat) (l fuel : Nat) : ∀ (segs : List (List Nat × Nat)) (listed : Array Bool) (a : Act) (w : World), Closed ops listed → planY ops k segs last l listed = true →
    stageRun n P ops Q last l fuel segs listed a w → wpAnyY n P ops (Exit.then Q (fun _ _ _ => False)) (Cls w) k ((segs.map fun s => s.1.length + 1).sum + last.length + 1 + fuel) listed a w := by
  intro segs
  induction segs with
  | nil =>
    intro listed a w hcl hp h
    simp only [planY, Bool.and_eq_true, beq_iff_eq, decide_eq_true_eq] at hp
    obtain ⟨hp, hr, hkl⟩ := hp
    have key := readsY_step (n := n) (Q := Q) (Cls.refl w) hs ht last listed (1 + fuel) a hcl hp h (fun a' _ ha' => ?_)
    · have e : (([] : List (List Nat × Nat)).map fun s => s.1.length + 1).sum + last.length + 1 + fuel = 1 + fuel + last.length := by simp; omega
      rw [e]
      exact key
    · rw [Nat.add_comm 1 fuel]
      refine ⟨fun h0 => (by rw [hr] at h0; cases h0), fun i hi => ?_⟩
      rw [hr, List.mem_singleton] at hi
      subst hi
      exact ⟨fun h => absurd h (by omega), fun _ => loudY_op (ha' _ fun _ _ h => h)⟩
  | cons sg segs ih =>
    obtain ⟨st, l0⟩ := sg
    intro listed a w hcl hp h
    simp only [planY, Bool.and_eq_true, beq_iff_eq, decide_eq_true_eq] at hp
    obtain ⟨hp1, ⟨hr, hlk⟩, hp⟩ := hp
    have key := readsY_step (n := n) (Q := Q) (Cls.refl w) hs ht st listed ((segs.map fun s => s.1.length + 1).sum + last.length + 1 + fuel + 1) a hcl hp1 h (fun a' hcl' ha' => ?_)
    · have e : ((((st, l0) :: segs).map fun s => s.1.length + 1).sum + last.length + 1 + fuel) = (segs.map fun s => s.1.length + 1).sum + last.length + 1 + fuel + 1 + st.length := by
        simp only [List.map_cons, List.sum_cons]; omega
      rw [e]
      exact key
    · refine ⟨fun h0 => (by rw [hr] at h0; cases h0), fun i hi => ?_⟩
      have hir := hi
      rw [hr, List.mem_singleton] at hi
      subst hi
      refine ⟨fun _ => ?_, fun h => absurd hlk h⟩
      exact loudY_op (ha' (fun a' w' => Cls w w' ∧ wpAnyY n P ops (Exit.then Q (fun _ _ _ => False)) (Cls w) k ((segs.map fun s => s.1.length + 1).sum + last.length + 1 + fuel) ((setAll listed st).setIfInBounds i true) a' w')
        (fun a'' w'' hb hh => ⟨regrown_of_below hb, wpAnyY_mono (fun _ hc => Cls.trans hb hc) _ _ _ _ (ih _ a'' w'' (hcl'.set hir) hp hh)⟩))
def closedB (ops : Array Oper) (listed : Array Bool) : Bool := (List.range ops.size).all fun m => !(listed.getD m false) || ((ops[m]?).map fun o => o.after.all fun e => !(Region.binds .any e) || listed.getD e.on false).getD true
theorem closed_of_B {listed : Array Bool} (h : closedB ops listed = true) : Closed ops listed := by
  intro m o ho hm e he hb
  have h1 := List.all_eq_true.1 h m (List.mem_range.2 (Array.getElem?_eq_some_iff.1 ho).1)
  rw [ho, hm] at h1
  simp only [Bool.not_true, Bool.false_or, Option.map_some, Option.getD_some] at h1
  have h2 := (Array.all_eq_true_iff_forall_mem.1 h1) e he
  rw [hb] at h2
  simpa using h2
theorem quiet_mono {C : World → Prop} {K K' : Act → Prop} (h : ∀ a, K a → K' a) : ∀ (l : List Oper) (a : Act), wpQuiet P ops C K l a → wpQuiet P ops C K' l a
  | [], a, hh => h a hh
  | o :: l, a, hh => by
    unfold wpQuiet at hh ⊢
    split
    · rename_i hw
      rw [if_pos hw] at hh
      obtain ⟨v, h1, h2⟩ := hh
      exact ⟨v, h1, quiet_mono h l _ h2⟩
    · rename_i hw
      rw [if_neg hw] at hh
      exact quiet_mono h l _ hh
theorem loudY_mono {l : Nat} {K K' : Act → World → Prop} {a : Act} {w : World} (h : ∀ a w, K a w → K' a w) (hh : wpLoudY n P ops Q l K a w) : wpLoudY n P ops Q l K' a w := by
  unfold wpLoudY at *
  cases ho : ops[l]? with
  | none => rw [ho] at hh; exact hh.elim
  | some o =>
    rw [ho] at hh
    simp only at hh ⊢
    split
    · rename_i hw; rw [if_pos hw] at hh; exact Oper.wpIn_mono h hh
    · rename_i hw; rw [if_neg hw] at hh; exact h _ _ hh
/-- One stage: as segRun, up to the operation number l; behind it C is to be shown. -/
def stageC (n : Nat) (P : Program) (ops : Array Oper) (Q : Act → World → Prop) (C : Act → World → Prop) (last : List Nat) (l : Nat) : List (List Nat × Nat) → Act → World → Prop
  | [], a, w => wpQuiet P ops (Cls w) (fun a' => ∀ K : Act → World → Prop, (∀ a'' w'', C a'' w'' → K a'' w'') → wpLoudY n P ops Q l K a' w) (opsAt ops last) a
  | (st, l0) :: rest, a, w => wpQuiet P ops (Cls w) (fun a' => ∀ K : Act → World → Prop, (∀ a'' w'', Below w.heap.size w w'' → stageC n P ops Q C last l rest a'' w'' → K a'' w'') → wpLoudY n P ops Q l0 K a' w) (opsAt ops st) a
theorem stageC_run {C : Act → World → Prop} {last : List Nat} {l fuel : Nat} {L : Array Bool} : ∀ (segs : List (List Nat × Nat)) (listed : Array Bool) (a : Act) (w : World),
    L = ((setAll (segs.foldl (fun L s => (setAll L s.1).setIfInBounds s.2 true) listed) last).setIfInBounds l true) →
    (∀ a w, C a w → wpAnyIn Fence.wide n P .any ops (Exit.then Q (fun _ _ _ => False)) fuel L a w) → stageC n P ops Q C last l segs a w → stageRun n P ops Q last l fuel segs listed a w
  | [], listed, a, w, hL, hC, h => by
    refine quiet_mono (fun a' h' K hK => h' K fun a'' w'' hc => hK _ _ ?_) _ _ h
    have := hC _ _ hc
    rw [hL] at this
    exact this
  | (st, l0) :: rest, listed, a, w, hL, hC, h => by
    refine quiet_mono (fun a' h' K hK => h' K fun a'' w'' hb hc => hK _ _ hb ?_) _ _ h
    exact stageC_run rest _ a'' w'' hL hC hc
def listedBy (segs : List (List Nat × Nat)) (last : List Nat) (l : Nat) (listed : Array Bool) : Array Bool := (setAll (segs.foldl (fun L s => (setAll L s.1).setIfInBounds s.2 true) listed) last).setIfInBounds l true
def segsLen (segs : List (List Nat × Nat)) (last : List Nat) : Nat := (segs.map fun s => s.1.length + 1).sum + last.length + 1
/-- Two stages, and reads behind them. -/
theorem wpIn_region_stages {id : Nat} {a : Act} {w : World} {R : Exit → Act → World → Prop} (A : List Nat) (segs1 segs2 : List (List Nat × Nat)) (last1 last2 fin : List Nat) (l1 l2 k1 k2 : Nat) (hm : P.follows .mixedOrders = true)
    (hp1 : (Region.noSelect ops && (tailAll ops A k1 && planY ops k1 segs1 last1 l1 (Array.replicate ops.size false))) = true)
    (hp2 : (tailAll ops A k2 && (closedB ops (listedBy segs1 last1 l1 (Array.replicate ops.size false)) && planY ops k2 segs2 last2 l2 (listedBy segs1 last1 l1 (Array.replicate ops.size false)))) = true)
    (hp3 : (tailAll ops A ops.size && (closedB ops (listedBy segs2 last2 l2 (listedBy segs1 last1 l1 (Array.replicate ops.size false))) && (readsY ops ops.size fin (listedBy segs2 last2 l2 (listedBy segs1 last1 l1 (Array.replicate ops.size false))) && (Region.ready .any ops (setAll (listedBy segs2 last2 l2 (listedBy segs1 last1 l1 (Array.replicate ops.size false))) fin) == [] && decide (segsLen segs1 last1 + (segsLen segs2 last2 + fin.length) = ops.size))))) = true)
    (h : ∀ Q : Act → World → Prop, (∀ a w, R .normal a w → Q a w) → ∀ w', Below w.heap.size w w' →
      stageC n P ops Q (stageC n P ops Q (fun a w => wpQuiet P ops (Cls w) (fun a' => Q a' w) (opsAt ops fin) a) last2 l2 segs2) last1 l1 segs1 a w') : (Code.region id ops true).wpIn Fence.wide n P R a w := by
  simp only [Bool.and_eq_true, decide_eq_true_eq, beq_iff_eq] at hp1 hp2 hp3
  obtain ⟨hs, ht1, hp1⟩ := hp1
  obtain ⟨ht2, hc2, hp2⟩ := hp2
  obtain ⟨ht3, hc3, hp3, hr, he⟩ := hp3
  refine Code.wpIn_mono (Q := Exit.then (fun a w => R .normal a w) (fun _ _ _ => False)) (fun e a w hq => by cases e <;> first | exact hq | exact hq.elim) ?_
  refine wpIn_region_any hm (wpAnyIn_of_Y (S := Cls w.drew) (k := k1) _ _ _ _ ?_)
  have key := stage_any (n := n) (P := P) (Q := fun a w => R .normal a w) hs ht1 last1 l1 (segsLen segs2 last2 + fin.length) segs1 _ a w.drew Closed.start hp1
    (stageC_run segs1 _ a w.drew rfl (fun a' w' hC => ?_) (h _ (fun _ _ h => h) _ (Below.refl _ _).drew))
  · have he' : (segs1.map fun s => s.1.length + 1).sum + last1.length + 1 + (segsLen segs2 last2 + fin.length) = ops.size := he
    rw [he'] at key
    exact key
  · have key2 := stage_any (n := n) (P := P) (Q := fun a w => R .normal a w) hs ht2 last2 l2 fin.length segs2 _ a' w' (closed_of_B hc2) hp2
      (stageC_run segs2 _ a' w' rfl (fun a2 w2 hC2 => ?_) hC)
    · exact wpAnyIn_of_Y _ _ _ _ key2
    · have key3 := readsY_step (n := n) (Q := fun a w => R .normal a w) (Cls.refl w2) hs ht3 fin _ 0 a2 (closed_of_B hc3) hp3 hC2 (fun a3 _ ha3 => ⟨hr, ha3⟩)
      rw [Nat.zero_add] at key3
      exact wpAnyIn_of_Y _ _ _ _ key3
theorem stage_next {C : Act → World → Prop} {last : List Nat} {l l0 : Nat} {st : List Nat} {rest : List (List Nat × Nat)} {a : Act} {w : World}
    (h : wpQuiet P ops (fun w' => ∃ p : Regrown, w' = grow (redrawn w p.d) p.os) (fun a' => ∀ K : Act → World → Prop, (∀ a'' w'', Below w.heap.size w w'' → stageC n P ops Q C last l rest a'' w'' → K a'' w'') → wpLoudY n P ops Q l0 K a' w) (opsAt ops st) a) :
    stageC n P ops Q C last l ((st, l0) :: rest) a w := h
theorem stage_last {C : Act → World → Prop} {last : List Nat} {l : Nat} {a : Act} {w : World}
    (h : wpQuiet P ops (fun w' => ∃ p : Regrown, w' = grow (redrawn w p.d) p.os) (fun a' => ∀ K : Act → World → Prop, (∀ a'' w'', C a'' w'' → K a'' w'') → wpLoudY n P ops Q l K a' w) (opsAt ops last) a) :
    stageC n P ops Q C last l [] a w := h
theorem stage_fin {fin : List Nat} {K : Act → Prop} {a : Act} {w : World} (h : wpQuiet P ops (fun w' => ∃ p : Regrown, w' = grow (redrawn w p.d) p.os) K (opsAt ops fin) a) : wpQuiet P ops (Cls w) K (opsAt ops fin) a := h
theorem quiet_skip {C : World → Prop} {K : Act → Prop} {o : Oper} {l : List Oper} {a : Act} (hw : Region.wanted o (yielded ops a.tmps) = false) (h : wpQuiet P ops C K l (a.put o.dst undef)) : wpQuiet P ops C K (o :: l) a := by
  unfold wpQuiet
  rw [if_neg (by rw [hw]; simp)]
  exact h
theorem quiet_val {C : World → Prop} {K : Act → Prop} {o : Oper} {l : List Oper} {a : Act} (v : Value) (hw : Region.wanted o (yielded ops a.tmps) = true) (hv : ∀ w, (execOp a.eval o).run P w = .ok (.value v) w) (h : wpQuiet P ops C K l (a.put o.dst v)) : wpQuiet P ops C K (o :: l) a := by
  unfold wpQuiet
  rw [if_pos hw]
  refine ⟨v, fun w' _ => ?_, h⟩
  unfold Oper.quietAt
  rw [hv w']
  exact ⟨rfl, rfl⟩
theorem quiet_move {C : World → Prop} {K : Act → Prop} {o : Oper} {l : List Oper} {a : Act} {x : Operand} (v : Value) (ho : o.op = .move x) (hx : a.eval x = v) (hw : Region.wanted o (yielded ops a.tmps) = true) (h : wpQuiet P ops C K l (a.put o.dst v)) : wpQuiet P ops C K (o :: l) a :=
  quiet_val v hw (fun w => by simp [execOp, ho, hx]) h
theorem loudY_in {l : Nat} {o : Oper} {K : Act → World → Prop} {a : Act} {w : World} (ho : ops[l]? = some o) (hw : Region.wanted o (yielded ops a.tmps) = true) (h : o.wpIn Fence.wide n P a w K (Exit.then Q (fun _ _ _ => False))) : wpLoudY n P ops Q l K a w := by
  unfold wpLoudY; rw [ho]; simp only [hw, if_true]; exact h
theorem op_wide {o : Oper} {a : Act} {w : World} {K : Act → World → Prop} {Q : Exit → Act → World → Prop} (h : o.wp P a w K Q) : o.wpIn Fence.wide n P a w K Q := by
  refine ⟨fun _ _ => trivial, ?_⟩
  unfold Oper.wp at h
  rw [show Fence.wide.round = none from rfl, Oper.semAt_none]
  generalize (execOp a.eval o).run P w = r at h
  cases r with
  | ok x w' =>
    cases x <;> simp only [Oper.upon, Oper.uponIn] at h ⊢ <;> first | exact h | exact h.elim | exact ⟨fun h' => by simp [Fence.wide] at h', callsIn_wide.2 h⟩ | exact ⟨fun h' => by simp [Fence.wide] at h', fun c cs _ => let ⟨v, w', r, s⟩ := h c cs; ⟨v, w', r, stepsIn_wide.2 s⟩⟩
  | halt x w' => cases x <;> simp only [Oper.upon, Oper.uponIn] at h ⊢ <;> exact h
theorem loudY_wp {l : Nat} {o : Oper} {K : Act → World → Prop} {a : Act} {w : World} (ho : ops[l]? = some o) (hw : Region.wanted o (yielded ops a.tmps) = true) (h : o.wp P a w K (Exit.then Q (fun _ _ _ => False))) : wpLoudY n P ops Q l K a w :=
  loudY_in ho hw (op_wide h)
theorem loudY_skip {l : Nat} {o : Oper} {K : Act → World → Prop} {a : Act} {w : World} (ho : ops[l]? = some o) (hw : Region.wanted o (yielded ops a.tmps) = false) (h : K (a.put o.dst undef) w) : wpLoudY n P ops Q l K a w := by
  unfold wpLoudY; rw [ho]; simp only [hw]; exact h
/-- A call of the caller's round. -/
theorem yield_op {o : Oper} {K : Act → World → Prop} {a : Act} {w : World} {Q : Exit → Act → World → Prop} {x y : Operand} {ty : TypeId} {l : Nat} {u : Value} {R : Ending → World → Prop} (ho : o.op = .call { callee := .value x, args := #[y], argTypes := #[ty] })
    (hx : a.eval x = .func (.yield l) #[] #[]) (hu : a.eval y = u) (hY : YieldAt Fence.wide (n - 1) P l #[u] w R)
    (h : ∀ e w', R e w' → ∃ v, e = .returned v ∧ K (a.put o.dst v) w') : o.wpIn Fence.wide n P a w K Q := by
  obtain ⟨fn, tmps, assign, body, hy, hR⟩ := hY
  refine ⟨fun _ _ => trivial, ?_⟩
  rw [show Fence.wide.round = none from rfl, Oper.semAt_none]
  unfold execOp
  simp only [ho, resolve, invoke, Sem.run_bind, List.map_toArray, List.map_cons, List.map_nil, hx, hu]
  simp [go_sem, hy]
  refine ⟨fun h' => by simp [Fence.wide] at h', hR.mono ?_⟩
  intro e w' he
  obtain ⟨v, rfl, hk⟩ := h e w' he
  exact hk
end
end Go.Proofs.YtldcehhhndlhdaaGreatDoor
/- What is known of a state whose slots are too many to be written out: its size and some slots. The steps of a quiet walk over such a state, and a walk's loud operations. -/
namespace Go.Proofs.YtldcehhhndlhdaaGreatDoor
open Go.RowKit Go.Sort
/-- A state after these writes, the newest first. -/
def puts (a0 : Act) : List (Nat × Value) → Act
  | [] => a0
  | (d, v) :: l => (puts a0 l).put (some d) v
/-- The state is a0 after the writes ws; it has N slots, and these of them hold these values. -/
structure Kn (a0 : Act) (ws : List (Nat × Value)) (a : Act) (N : Nat) (L : List (Nat × Value)) : Prop where
  is : a = puts a0 ws
  size : a.tmps.size = N
  holds : ∀ p ∈ L, a.tmps.getD p.1 undef = p.2
def lk : List (Nat × Value) → Nat → Option Value
  | [], _ => none
  | (j, v) :: l, i => bif Nat.beq j i then some v else lk l i
def fresh (N : Nat) (d : Nat) : List (Nat × Value) → Bool
  | [] => Nat.blt d N
  | (j, _) :: l => !(Nat.beq j d) && fresh N d l
theorem lk_mem {i : Nat} {v : Value} : ∀ {L : List (Nat × Value)}, lk L i = some v → (i, v) ∈ L
  | [], h => by simp [lk] at h
  | (j, u) :: l, h => by
    unfold lk at h
    cases hb : Nat.beq j i with
    | true =>
      rw [hb] at h
      have := Nat.eq_of_beq_eq_true hb
      simp only [cond_true, Option.some.injEq] at h
      subst this; subst h
      exact List.mem_cons_self
    | false =>
      rw [hb] at h
      exact List.mem_cons_of_mem _ (lk_mem h)
theorem fresh_spec {N d : Nat} : ∀ {L : List (Nat × Value)}, fresh N d L = true → d < N ∧ ∀ p ∈ L, p.1 ≠ d
  | [], h => ⟨Nat.le_of_ble_eq_true (by simpa [fresh, Nat.blt] using h), by simp⟩
  | (j, u) :: l, h => by
    unfold fresh at h
    rw [Bool.and_eq_true] at h
    obtain ⟨h1, h2⟩ := fresh_spec h.2
    refine ⟨h1, fun p hp => ?_⟩
    rcases List.mem_cons.1 hp with rfl | hp
    · intro e
      have h3 := h.1
      simp only at e
      subst e
      rw [show Nat.beq j j = true from Nat.beq_refl j] at h3
      simp at h3
    · exact h2 p hp
section
variable {P : Program} {ops : Array Oper} {a0 a : Act} {N : Nat} {ws L : List (Nat × Value)}
theorem Kn.nil (h : a.tmps.size = N) : Kn a [] a N [] := ⟨rfl, h, by simp⟩
theorem Kn.add (hk : Kn a0 ws a N L) (i : Nat) {v : Value} (h : a.eval (.tmp i) = v) : Kn a0 ws a N ((i, v) :: L) :=
  ⟨hk.is, hk.size, fun p hp => by rcases List.mem_cons.1 hp with rfl | hp; exact h; exact hk.holds p hp⟩
theorem Kn.look (hk : Kn a0 ws a N L) {i : Nat} {v : Value} (h : lk L i = some v) : a.eval (.tmp i) = v := hk.holds _ (lk_mem h)
theorem Kn.at_ (hk : Kn a0 ws a N L) {i : Nat} {v : Value} (h : lk L i = some v) : a.tmps[i]?.getD undef = v := by
  have h1 : a.tmps.getD i undef = v := hk.look h
  rw [Array.getD_eq_getD_getElem?] at h1
  exact h1
theorem Kn.put (hk : Kn a0 ws a N L) {d : Nat} (v : Value) (h : fresh N d L = true) : Kn a0 ((d, v) :: ws) (a.put (some d) v) N ((d, v) :: L) := by
  obtain ⟨h1, h2⟩ := fresh_spec h
  obtain ⟨h0, h3, h4⟩ := hk
  refine ⟨by rw [h0]; rfl, by simpa [Act.put] using h3, fun p hp => ?_⟩
  rcases List.mem_cons.1 hp with rfl | hp
  · simp [Act.put, Array.getD_eq_getD_getElem?, h3, h1]
  · have h5 := h4 p hp
    have h6 := h2 p hp
    simp only [Act.put, Array.getD_eq_getD_getElem?, Array.getElem?_setIfInBounds] at h5 ⊢
    rw [if_neg (fun e => h6 e.symm)]
    exact h5
theorem wanted_none {o : Oper} {y : Nat → Option Bool} (h : o.guard = none) : Region.wanted o y = true := by unfold Region.wanted; rw [h]
def yb : Value → Option Bool
  | .bool b => some b
  | _ => none
theorem wanted_of (hk : Kn a0 ws a N L) {o : Oper} {j g : Nat} {want : Bool} {v : Value} (hg : o.guard = some (j, want)) (hj : (ops[j]?).bind (·.dst) = some g) (hl : lk L g = some v) (hN : Nat.blt g N = true) : Region.wanted o (yielded ops a.tmps) = (yb v == some want) := by
  have h1 : a.tmps.getD g undef = v := hk.look hl
  have h2 : g < a.tmps.size := by rw [hk.size]; exact Nat.le_of_ble_eq_true hN
  unfold Region.wanted yielded
  rw [hg]
  simp only [hj, Option.bind_some]
  rw [Array.getD_eq_getD_getElem?, Array.getElem?_eq_getElem h2, Option.getD_some] at h1
  rw [Array.getElem?_eq_getElem h2, h1]
  cases v <;> rfl
theorem wanted_yes (hk : Kn a0 ws a N L) {o : Oper} {j g : Nat} {want : Bool} {v : Value} (hg : o.guard = some (j, want)) (hj : (ops[j]?).bind (·.dst) = some g) (hl : lk L g = some v) (hN : (Nat.blt g N && (yb v == some want)) = true) : Region.wanted o (yielded ops a.tmps) = true := by
  rw [Bool.and_eq_true] at hN
  rw [wanted_of (ops := ops) hk hg hj hl hN.1, hN.2]
variable {C : World → Prop} {K : Act → Prop} {o : Oper} {l : List Oper}
/-- An operation that is passed over. -/
theorem kq_skip (hk : Kn a0 ws a N L) {j g d : Nat} {want : Bool} {v : Value} (hg : o.guard = some (j, want)) (hj : (ops[j]?).bind (·.dst) = some g) (hl : lk L g = some v) (hN : (Nat.blt g N && !(yb v == some want)) = true) (ho : o.dst = some d) (hf : fresh N d L = true)
    (h : ∀ a', Kn a0 ((d, undef) :: ws) a' N ((d, undef) :: L) → wpQuiet P ops C K l a') : wpQuiet P ops C K (o :: l) a := by
  rw [Bool.and_eq_true] at hN
  have hw := wanted_of (ops := ops) hk hg hj hl hN.1
  have h2 : (yb v == some want) = false := by simpa using hN.2
  unfold wpQuiet
  rw [if_neg (by rw [hw, h2]; simp), ho]
  exact h _ (hk.put _ hf)
/-- An operation that reads. -/
theorem kq_val (hk : Kn a0 ws a N L) {d : Nat} (v : Value) (ho : o.dst = some d) (hf : fresh N d L = true) (hw : Region.wanted o (yielded ops a.tmps) = true) (hv : ∀ w, C w → (execOp a.eval o).run P w = .ok (.value v) w)
    (h : ∀ a', Kn a0 ((d, v) :: ws) a' N ((d, v) :: L) → wpQuiet P ops C K l a') : wpQuiet P ops C K (o :: l) a := by
  unfold wpQuiet
  rw [if_pos hw]
  refine ⟨v, fun w' hc => ?_, ?_⟩
  · unfold Oper.quietAt
    rw [hv w' hc]
    exact ⟨rfl, rfl⟩
  · rw [ho]
    exact h _ (hk.put _ hf)
theorem kq_move (hk : Kn a0 ws a N L) {d : Nat} {x : Operand} (v : Value) (hop : o.op = .move x) (hx : a.eval x = v) (ho : o.dst = some d) (hf : fresh N d L = true) (hw : Region.wanted o (yielded ops a.tmps) = true)
    (h : ∀ a', Kn a0 ((d, v) :: ws) a' N ((d, v) :: L) → wpQuiet P ops C K l a') : wpQuiet P ops C K (o :: l) a :=
  kq_val hk v ho hf hw (fun w _ => by simp [execOp, hop, hx]) h
variable {n : Nat} {Q : Act → World → Prop} {KW : Act → World → Prop} {w : World} {i : Nat}
/-- A loud operation that is passed over. -/
theorem kl_skip (hk : Kn a0 ws a N L) {j g d : Nat} {want : Bool} {v : Value} (hi : ops[i]? = some o) (hg : o.guard = some (j, want)) (hj : (ops[j]?).bind (·.dst) = some g) (hl : lk L g = some v) (hN : (Nat.blt g N && !(yb v == some want)) = true) (ho : o.dst = some d) (hf : fresh N d L = true)
    (h : ∀ a', Kn a0 ((d, undef) :: ws) a' N ((d, undef) :: L) → KW a' w) : wpLoudY n P ops Q i KW a w := by
  rw [Bool.and_eq_true] at hN
  have hw := wanted_of (ops := ops) hk hg hj hl hN.1
  have h2 : (yb v == some want) = false := by simpa using hN.2
  refine loudY_skip hi (by rw [hw, h2]) ?_
  rw [ho]
  exact h _ (hk.put _ hf)
/-- A loud operation that calls. -/
theorem kl_call (hk : Kn a0 ws a N L) {d : Nat} {f : FuncId} {vs : Array Value} (hi : ops[i]? = some o) (hw : Region.wanted o (yielded ops a.tmps) = true) (ho : o.dst = some d) (hf : fresh N d L = true) (hx : (execOp a.eval o).run P w = .ok (.enter f vs) w)
    (hc : Calls P f vs w fun e w' => ∃ v, e = .returned v ∧ ∀ a', Kn a0 ((d, v) :: ws) a' N ((d, v) :: L) → KW a' w') : wpLoudY n P ops Q i KW a w := by
  refine loudY_wp hi hw ?_
  unfold Oper.wp
  rw [hx]
  refine Calls.mono hc ?_
  rintro e w' ⟨v, rfl, h⟩
  show KW (a.put o.dst v) w'
  rw [ho]
  exact h _ (hk.put _ hf)
/-- A loud operation that hands on to the caller's round. -/
theorem kl_yield (hk : Kn a0 ws a N L) {d l : Nat} {x y : Operand} {ty : TypeId} {u : Value} {R : Ending → World → Prop} (hi : ops[i]? = some o) (hw : Region.wanted o (yielded ops a.tmps) = true) (ho : o.dst = some d) (hf : fresh N d L = true) (hop : o.op = .call { callee := .value x, args := #[y], argTypes := #[ty] })
    (hx : a.eval x = .func (.yield l) #[] #[]) (hu : a.eval y = u) (hY : YieldAt Fence.wide (n - 1) P l #[u] w R)
    (h : ∀ e w', R e w' → ∃ v, e = .returned v ∧ ∀ a', Kn a0 ((d, v) :: ws) a' N ((d, v) :: L) → KW a' w') : wpLoudY n P ops Q i KW a w :=
  loudY_in hi hw (yield_op hop hx hu hY fun e w' he => by
    obtain ⟨v, e1, e2⟩ := h e w' he
    refine ⟨v, e1, ?_⟩
    rw [ho]
    exact e2 _ (hk.put _ hf))
theorem quiet_cls (h : wpQuiet P ops (fun w' => ∃ p : Regrown, w' = grow (redrawn w p.d) p.os) K l a) : wpQuiet P ops (Cls w) K l a := h
/-- The state of a stage gets a letter. -/
theorem stage_letter {C : Act → World → Prop} {last : List Nat} {l : Nat} {segs : List (List Nat × Nat)} (h : ∀ a', a = a' → stageC n P ops Q C last l segs a' w) : stageC n P ops Q C last l segs a w := h a rfl
end
end Go.Proofs.YtldcehhhndlhdaaGreatDoor
