/- A region that draws its order, whose loud operations may come up in more than one order: a tree of plans. Beside XSeg. -/
import Derived.Test.YtplbaijdnpfdgaaSeg
namespace Go.Proofs.Ytplbaijdnpfdgaa
open Go.RowKit Go.Sort

/-- Some reads, then one of some loud operations, and a plan behind each; at the end reads, and the last operations. -/
inductive Plan where
  | last (r t : List Nat)
  | node (st ls : List Nat) (f : Nat → Plan)

def treeOk (ops : Array Oper) (k : Nat) : Plan → Nat → Array Bool → Bool
  | .last r t, n, listed => match readsOk ops k r listed with
    | some l => endOk ops t l && decide (n = r.length + t.length) && t.all (fun i => decide (k ≤ i) && decide (i < ops.size))
    | none => false
  | .node st ls f, n, listed => match readsOk ops k st listed with
    | some l' => Region.ready .any ops l' == ls && !ls.isEmpty && decide (st.length + 1 ≤ n) && ls.all (fun l => !pureAt ops l && treeOk ops k (f l) (n - (st.length + 1)) (l'.setIfInBounds l true))
    | none => false

section
variable {P : Program} {ops : Array Oper} {Q : Act → World → Prop} {k : Nat}
def treeRun (P : Program) (ops : Array Oper) (Q : Act → World → Prop) : Plan → Act → World → Prop
  | .last r t, a, w => wpQuiet P ops (Cls w) (fun a' => wpList P ops (Exit.then Q (fun _ _ _ => False)) (opsAt ops t) a' w) (opsAt ops r) a
  | .node st ls f, a, w => wpQuiet P ops (Cls w) (fun a' => ∀ l ∈ ls, ∀ K : Act → World → Prop, (∀ a'' w'', Below w.heap.size w w'' → treeRun P ops Q (f l) a'' w'' → K a'' w'') → wpLoud P ops Q l K a' w) (opsAt ops st) a

theorem tree_any (hs : Region.noSelect ops = true) (ht : tailOk ops k = true) : ∀ (p : Plan) (n : Nat) (listed : Array Bool) (a : Act) (w : World), Closed ops listed → treeOk ops k p n listed = true →
    treeRun P ops Q p a w → wpAnyG P ops (Exit.then Q (fun _ _ _ => False)) (Cls w) k n listed a w := by
  intro p
  induction p with
  | last r t =>
    intro n listed a w hcl hp h
    simp only [treeOk] at hp
    split at hp
    case h_2 => cases hp
    rename_i l hl
    simp only [Bool.and_eq_true, decide_eq_true_eq] at hp
    obtain ⟨⟨hp, hn⟩, hk⟩ := hp
    subst hn
    have hk' : ∀ i ∈ t, k ≤ i ∧ i < ops.size := fun i hi => by simpa using List.all_eq_true.1 hk i hi
    have := reads_step (Q := Q) (Cls.refl w) hs ht r listed l t.length a hcl hl h (fun a' _ ha' => end_step t l a' w hp hk' ha')
    simpa [Nat.add_comm] using this
  | node st ls f ih =>
    intro n listed a w hcl hp h
    simp only [treeOk] at hp
    split at hp
    case h_2 => cases hp
    rename_i l' hl
    simp only [Bool.and_eq_true, beq_iff_eq, decide_eq_true_eq, Bool.not_eq_true'] at hp
    obtain ⟨⟨⟨hr, hne⟩, hn⟩, hp⟩ := hp
    obtain ⟨m, rfl⟩ : ∃ m, n = m + 1 + st.length := ⟨n - (st.length + 1), by omega⟩
    have hm : m + 1 + st.length - (st.length + 1) = m := by omega
    rw [hm] at hp
    refine reads_step (Q := Q) (Cls.refl w) hs ht st listed l' (m + 1) a hcl hl h (fun a' hcl' ha' => ?_)
    refine ⟨fun h0 => (by rw [hr] at h0; rw [h0] at hne; cases hne), fun i hi => ?_⟩
    have hir := hi
    rw [hr] at hi
    have hpi := List.all_eq_true.1 hp i hi
    simp only [Bool.and_eq_true, Bool.not_eq_true'] at hpi
    obtain ⟨hnp, hpi⟩ := hpi
    have h2 := ha' i hi (fun a' w' => Gd ops (Cls w) k i w w' ∧ wpAnyG P ops (Exit.then Q (fun _ _ _ => False)) (Cls w) k m (l'.setIfInBounds i true) a' w')
      (fun a'' w'' hb hh => ⟨fun _ => ⟨fun h => (by rw [hnp] at h; cases h), fun _ => regrown_of_below hb⟩, wpAnyG_mono (fun _ hc => Cls.trans hb hc) _ _ _ _ (ih i m _ a'' w'' (hcl'.set hir) hpi hh)⟩)
    unfold wpOp
    unfold wpLoud at h2
    cases ho : ops[i]? with
    | none => rw [ho] at h2; exact h2.elim
    | some o =>
      rw [ho] at h2
      simp only at h2 ⊢
      split
      · rename_i hw; rw [if_pos hw] at h2; exact .inl h2
      · rename_i hw; rw [if_neg hw] at h2; exact h2

theorem tree_node {st ls : List Nat} {f : Nat → Plan} {a : Act} {w : World}
    (h : wpQuiet P ops (fun w' => ∃ p : Regrown, w' = grow (redrawn w p.d) p.os) (fun a' => ∀ l ∈ ls, ∀ K : Act → World → Prop, (∀ a'' w'', Below w.heap.size w w'' → treeRun P ops Q (f l) a'' w'' → K a'' w'') → wpLoud P ops Q l K a' w) (opsAt ops st) a) :
    treeRun P ops Q (.node st ls f) a w := h
theorem tree_last {r t : List Nat} {a : Act} {w : World} (h : wpQuiet P ops (fun w' => ∃ p : Regrown, w' = grow (redrawn w p.d) p.os) (fun a' => wpList P ops (Exit.then Q (fun _ _ _ => False)) (opsAt ops t) a' w) (opsAt ops r) a) : treeRun P ops Q (.last r t) a w := h
theorem all_one {p : Nat → Prop} {l : Nat} (h : p l) : ∀ x ∈ [l], p x := fun x hx => by rw [List.mem_singleton.1 hx]; exact h
theorem all_two {p : Nat → Prop} {l m : Nat} (h : p l) (h' : p m) : ∀ x ∈ [l, m], p x := fun x hx => by
  rcases List.mem_cons.1 hx with e | hx
  · rw [e]; exact h
  · rw [List.mem_singleton.1 hx]; exact h'

theorem wp_region_tree {id : Nat} {a : Act} {w : World} {R : Exit → Act → World → Prop} (p : Plan) (k : Nat) (hm : P.follows .mixedOrders = true)
    (hp : (Region.noSelect ops && tailOk ops k && treeOk ops k p ops.size (Array.replicate ops.size false)) = true)
    (h : ∀ Q : Act → World → Prop, (∀ a w, R .normal a w → Q a w) → ∀ w', Below w.heap.size w w' → treeRun P ops Q p a w') : (Code.region id ops true).wp P R a w := by
  simp only [Bool.and_eq_true] at hp
  obtain ⟨⟨hs, ht⟩, hp⟩ := hp
  refine Code.wp_mono (Q := Exit.then (fun a w => R .normal a w) (fun _ _ _ => False)) (fun e a w hq => by cases e <;> first | exact hq | exact hq.elim) ?_
  refine wp_region_any hm (wpAny_of_G (S := Cls w.drew) (k := k) _ _ _ _ ?_)
  exact tree_any hs ht p _ _ a w.drew Closed.start hp (h _ (fun _ _ h => h) _ (Below.refl _ _).drew)

/-! The same, where the reads meet what stood when the region began, and rows that it has made may be written. -/
def treeRunB (P : Program) (ops : Array Oper) (Q : Act → World → Prop) (wB : World) : Plan → Act → World → Prop
  | .last r t, a, w => wpQuiet P ops (Cls wB) (fun a' => wpList P ops (Exit.then Q (fun _ _ _ => False)) (opsAt ops t) a' w) (opsAt ops r) a
  | .node st ls f, a, w => wpQuiet P ops (Cls wB) (fun a' => ∀ l ∈ ls, ∀ K : Act → World → Prop, (∀ a'' w'', Below wB.heap.size wB w'' → treeRunB P ops Q wB (f l) a'' w'' → K a'' w'') → wpLoud P ops Q l K a' w) (opsAt ops st) a
theorem tree_anyB {wB : World} (hs : Region.noSelect ops = true) (ht : tailOk ops k = true) : ∀ (p : Plan) (n : Nat) (listed : Array Bool) (a : Act) (w : World), Closed ops listed → Cls wB w → treeOk ops k p n listed = true →
    treeRunB P ops Q wB p a w → wpAnyG P ops (Exit.then Q (fun _ _ _ => False)) (Cls wB) k n listed a w := by
  intro p
  induction p with
  | last r t =>
    intro n listed a w hcl hC hp h
    simp only [treeOk] at hp
    split at hp
    case h_2 => cases hp
    rename_i l hl
    simp only [Bool.and_eq_true, decide_eq_true_eq] at hp
    obtain ⟨⟨hp, hn⟩, hk⟩ := hp
    subst hn
    have hk' : ∀ i ∈ t, k ≤ i ∧ i < ops.size := fun i hi => by simpa using List.all_eq_true.1 hk i hi
    have := reads_step (Q := Q) hC hs ht r listed l t.length a hcl hl h (fun a' _ ha' => end_step t l a' w hp hk' ha')
    simpa [Nat.add_comm] using this
  | node st ls f ih =>
    intro n listed a w hcl hC hp h
    simp only [treeOk] at hp
    split at hp
    case h_2 => cases hp
    rename_i l' hl
    simp only [Bool.and_eq_true, beq_iff_eq, decide_eq_true_eq, Bool.not_eq_true'] at hp
    obtain ⟨⟨⟨hr, hne⟩, hn⟩, hp⟩ := hp
    obtain ⟨m, rfl⟩ : ∃ m, n = m + 1 + st.length := ⟨n - (st.length + 1), by omega⟩
    have hm : m + 1 + st.length - (st.length + 1) = m := by omega
    rw [hm] at hp
    refine reads_step (Q := Q) hC hs ht st listed l' (m + 1) a hcl hl h (fun a' hcl' ha' => ?_)
    refine ⟨fun h0 => (by rw [hr] at h0; rw [h0] at hne; cases hne), fun i hi => ?_⟩
    have hir := hi
    rw [hr] at hi
    have hpi := List.all_eq_true.1 hp i hi
    simp only [Bool.and_eq_true, Bool.not_eq_true'] at hpi
    obtain ⟨hnp, hpi⟩ := hpi
    have h2 := ha' i hi (fun a' w' => Gd ops (Cls wB) k i w w' ∧ wpAnyG P ops (Exit.then Q (fun _ _ _ => False)) (Cls wB) k m (l'.setIfInBounds i true) a' w')
      (fun a'' w'' hb hh => ⟨fun _ => ⟨fun h => (by rw [hnp] at h; cases h), fun _ => regrown_of_below hb⟩, ih i m _ a'' w'' (hcl'.set hir) (regrown_of_below hb) hpi hh⟩)
    unfold wpOp
    unfold wpLoud at h2
    cases ho : ops[i]? with
    | none => rw [ho] at h2; exact h2.elim
    | some o =>
      rw [ho] at h2
      simp only at h2 ⊢
      split
      · rename_i hw; rw [if_pos hw] at h2; exact .inl h2
      · rename_i hw; rw [if_neg hw] at h2; exact h2
theorem treeB_node {wB : World} {st ls : List Nat} {f : Nat → Plan} {a : Act} {w : World}
    (h : wpQuiet P ops (fun w' => ∃ p : Regrown, w' = grow (redrawn wB p.d) p.os) (fun a' => ∀ l ∈ ls, ∀ K : Act → World → Prop, (∀ a'' w'', Below wB.heap.size wB w'' → treeRunB P ops Q wB (f l) a'' w'' → K a'' w'') → wpLoud P ops Q l K a' w) (opsAt ops st) a) :
    treeRunB P ops Q wB (.node st ls f) a w := h
theorem treeB_last {wB : World} {r t : List Nat} {a : Act} {w : World} (h : wpQuiet P ops (fun w' => ∃ p : Regrown, w' = grow (redrawn wB p.d) p.os) (fun a' => wpList P ops (Exit.then Q (fun _ _ _ => False)) (opsAt ops t) a' w) (opsAt ops r) a) : treeRunB P ops Q wB (.last r t) a w := h
theorem wp_region_treeB {id : Nat} {a : Act} {w : World} {R : Exit → Act → World → Prop} (p : Plan) (k : Nat) (hm : P.follows .mixedOrders = true)
    (hp : (Region.noSelect ops && tailOk ops k && treeOk ops k p ops.size (Array.replicate ops.size false)) = true)
    (h : ∀ Q : Act → World → Prop, (∀ a w, R .normal a w → Q a w) → ∀ w', Below w.heap.size w w' → treeRunB P ops Q w' p a w') : (Code.region id ops true).wp P R a w := by
  simp only [Bool.and_eq_true] at hp
  obtain ⟨⟨hs, ht⟩, hp⟩ := hp
  refine Code.wp_mono (Q := Exit.then (fun a w => R .normal a w) (fun _ _ _ => False)) (fun e a w hq => by cases e <;> first | exact hq | exact hq.elim) ?_
  refine wp_region_any hm (wpAny_of_G (S := Cls w.drew) (k := k) _ _ _ _ ?_)
  exact tree_anyB hs ht p _ _ a w.drew Closed.start (Cls.refl _) hp (h _ (fun _ _ h => h) _ (Below.refl _ _).drew)
end
end Go.Proofs.Ytplbaijdnpfdgaa
