/- A region that draws its order, whose loud operations may come up in more than one order: a tree of plans. Beside XSeg. -/
import Derived.Test.YtldcehhhndlhdaaC2
import Derived.Test.YtldcehhhndlhdaaC1
namespace Go.Proofs.Ytldcehhhndlhdaa
open Go.RowKit Go.Sort

/-- Some reads, then one of some loud operations, and a plan behind each; at the end reads, and the last operations. -/
inductive Plan where
  | last (r t : List Nat)
  | node (st ls : List Nat) (f : Nat → Plan)

def treeOk (ops : Array Oper) (k : Nat) : Plan → Nat → Array Bool → Bool
  | .last r t, n, listed => match readsOk ops k r listed with
    | some l => endOk ops t l && decide (n = r.length + t.length) && t.all (fun i => decide (k ≤ i) && decide (i < ops.size))
    | none => false
  | .node st ls f, n, listed => match readsOk ops k st listed with
    | some l' => Region.ready .any ops l' == ls && !ls.isEmpty && decide (st.length + 1 ≤ n) && ls.all (fun l => !pureAt ops l && treeOk ops k (f l) (n - (st.length + 1)) (l'.setIfInBounds l true))
    | none => false

section
variable {P : Program} {ops : Array Oper} {Q : Act → World → Prop} {k : Nat}
def treeRun (P : Program) (ops : Array Oper) (Q : Act → World → Prop) : Plan → Act → World → Prop
  | .last r t, a, w => wpQuiet P ops (Cls w) (fun a' => wpList P ops (Exit.then Q (fun _ _ _ => False)) (opsAt ops t) a' w) (opsAt ops r) a
  | .node st ls f, a, w => wpQuiet P ops (Cls w) (fun a' => ∀ l ∈ ls, ∀ K : Act → World → Prop, (∀ a'' w'', Below w.heap.size w w'' → treeRun P ops Q (f l) a'' w'' → K a'' w'') → wpLoud P ops Q l K a' w) (opsAt ops st) a

theorem tree_any (hs : Region.noSelect ops = true) (ht : tailOk ops k = true) : ∀ (p : Plan) (n : Nat) (listed : Array Bool) (a : Act) (w : World), Closed ops listed → treeOk ops k p n listed = true →
    treeRun P ops Q p a w → wpAnyG P ops (Exit.then Q (fun _ _ _ => False)) (Cls w) k n listed a w := by
  intro p
  induction p with
  | last r t =>
    intro n listed a w hcl hp h
    simp only [treeOk] at hp
    split at hp
    case h_2 => cases hp
    rename_i l hl
    simp only [Bool.and_eq_true, decide_eq_true_eq] at hp
    obtain ⟨⟨hp, hn⟩, hk⟩ := hp
    subst hn
    have hk' : ∀ i ∈ t, k ≤ i ∧ i < ops.size := fun i hi => by simpa using List.all_eq_true.1 hk i hi
    have := reads_step (Q := Q) (Cls.refl w) hs ht r listed l t.length a hcl hl h (fun a' _ ha' => end_step t l a' w hp hk' ha')
    simpa [Nat.add_comm] using this
  | node st ls f ih =>
    intro n listed a w hcl hp h
    simp only [treeOk] at hp
    split at hp
    case h_2 => cases hp
    rename_i l' hl
    simp only [Bool.and_eq_true, beq_iff_eq, decide_eq_true_eq, Bool.not_eq_true'] at hp
    obtain ⟨⟨⟨hr, hne⟩, hn⟩, hp⟩ := hp
    obtain ⟨m, rfl⟩ : ∃ m, n = m + 1 + st.length := ⟨n - (st.length + 1), by omega⟩
    have hm : m + 1 + st.length - (st.length + 1) = m := by omega
    rw [hm] at hp
    refine reads_step (Q := Q) (Cls.refl w) hs ht st listed l' (m + 1) a hcl hl h (fun a' hcl' ha' => ?_)
    refine ⟨fun h0 => (by rw [hr] at h0; rw [h0] at hne; cases hne), fun i hi => ?_⟩
    have hir := hi
    rw [hr] at hi
    have hpi := List.all_eq_true.1 hp i hi
    simp only [Bool.and_eq_true, Bool.not_eq_true'] at hpi
    obtain ⟨hnp, hpi⟩ := hpi
    have h2 := ha' i hi (fun a' w' => Gd ops (Cls w) k i w w' ∧ wpAnyG P ops (Exit.then Q (fun _ _ _ => False)) (Cls w) k m (l'.setIfInBounds i true) a' w')
      (fun a'' w'' hb hh => ⟨fun _ => ⟨fun h => (by rw [hnp] at h; cases h), fun _ => regrown_of_below hb⟩, wpAnyG_mono (fun _ hc => Cls.trans hb hc) _ _ _ _ (ih i m _ a'' w'' (hcl'.set hir) hpi hh)⟩)
    unfold wpOp
    unfold wpLoud at h2
    cases ho : ops[i]? with
    | none => rw [ho] at h2; exact h2.elim
    | some o =>
      rw [ho] at h2
      simp only at h2 ⊢
      split
      · rename_i hw; rw [if_pos hw] at h2; exact .inl h2
      · rename_i hw; rw [if_neg hw] at h2; exact h2

theorem tree_node {st ls : List Nat} {f : Nat → Plan} {a : Act} {w : World}
    (h : wpQuiet P ops (fun w' => ∃ p : Regrown, w' = grow (redrawn w p.d) p.os) (fun a' => ∀ l ∈ ls, ∀ K : Act → World → Prop, (∀ a'' w'', Below w.heap.size w w'' → treeRun P ops Q (f l) a'' w'' → K a'' w'') → wpLoud P ops Q l K a' w) (opsAt ops st) a) :
    treeRun P ops Q (.node st ls f) a w := h
theorem tree_last {r t : List Nat} {a : Act} {w : World} (h : wpQuiet P ops (fun w' => ∃ p : Regrown, w' = grow (redrawn w p.d) p.os) (fun a' => wpList P ops (Exit.then Q (fun _ _ _ => False)) (opsAt ops t) a' w) (opsAt ops r) a) : treeRun P ops Q (.last r t) a w := h
theorem all_one {p : Nat → Prop} {l : Nat} (h : p l) : ∀ x ∈ [l], p x := fun x hx => by rw [List.mem_singleton.1 hx]; exact h
theorem all_two {p : Nat → Prop} {l m : Nat} (h : p l) (h' : p m) : ∀ x ∈ [l, m], p x := fun x hx => by
  rcases List.mem_cons.1 hx with e | hx
  · rw [e]; exact h
  · rw [List.mem_singleton.1 hx]; exact h'

theorem wp_region_tree {id : Nat} {a : Act} {w : World} {R : Exit → Act → World → Prop} (p : Plan) (k : Nat) (hm : P.follows .mixedOrders = true)
    (hp : (Region.noSelect ops && tailOk ops k && treeOk ops k p ops.size (Array.replicate ops.size false)) = true)
    (h : ∀ Q : Act → World → Prop, (∀ a w, R .normal a w → Q a w) → ∀ w', Below w.heap.size w w' → treeRun P ops Q p a w') : (Code.region id ops true).wp P R a w := by
  simp only [Bool.and_eq_true] at hp
  obtain ⟨⟨hs, ht⟩, hp⟩ := hp
  refine Code.wp_mono (Q := Exit.then (fun a w => R .normal a w) (fun _ _ _ => False)) (fun e a w hq => by cases e <;> first | exact hq | exact hq.elim) ?_
  refine wp_region_any hm (wpAny_of_G (S := Cls w.drew) (k := k) _ _ _ _ ?_)
  exact tree_any hs ht p _ _ a w.drew Closed.start hp (h _ (fun _ _ h => h) _ (Below.refl _ _).drew)

/-! The same, where the reads meet what stood when the region began, and rows that it has made may be written. -/
def treeRunB (P : Program) (ops : Array Oper) (Q : Act → World → Prop) (wB : World) : Plan → Act → World → Prop
  | .last r t, a, w => wpQuiet P ops (Cls wB) (fun a' => wpList P ops (Exit.then Q (fun _ _ _ => False)) (opsAt ops t) a' w) (opsAt ops r) a
  | .node st ls f, a, w => wpQuiet P ops (Cls wB) (fun a' => ∀ l ∈ ls, ∀ K : Act → World → Prop, (∀ a'' w'', Below wB.heap.size wB w'' → treeRunB P ops Q wB (f l) a'' w'' → K a'' w'') → wpLoud P ops Q l K a' w) (opsAt ops st) a
theorem tree_anyB {wB : World} (hs : Region.noSelect ops = true) (ht : tailOk ops k = true) : ∀ (p : Plan) (n : Nat) (listed : Array Bool) (a : Act) (w : World), Closed ops listed → Cls wB w → treeOk ops k p n listed = true →
    treeRunB P ops Q wB p a w → wpAnyG P ops (Exit.then Q (fun _ _ _ => False)) (Cls wB) k n listed a w := by
  intro p
  induction p with
  | last r t =>
    intro n listed a w hcl hC hp h
    simp only [treeOk] at hp
    split at hp
    case h_2 => cases hp
    rename_i l hl
    simp only [Bool.and_eq_true, decide_eq_true_eq] at hp
    obtain ⟨⟨hp, hn⟩, hk⟩ := hp
    subst hn
    have hk' : ∀ i ∈ t, k ≤ i ∧ i < ops.size := fun i hi => by simpa using List.all_eq_true.1 hk i hi
    have := reads_step (Q := Q) hC hs ht r listed l t.length a hcl hl h (fun a' _ ha' => end_step t l a' w hp hk' ha')
    simpa [Nat.add_comm] using this
  | node st ls f ih =>
    intro n listed a w hcl hC hp h
    simp only [treeOk] at hp
    split at hp
    case h_2 => cases hp
    rename_i l' hl
    simp only [Bool.and_eq_true, beq_iff_eq, decide_eq_true_eq, Bool.not_eq_true'] at hp
    obtain ⟨⟨⟨hr, hne⟩, hn⟩, hp⟩ := hp
    obtain ⟨m, rfl⟩ : ∃ m, n = m + 1 + st.length := ⟨n - (st.length + 1), by omega⟩
    have hm : m + 1 + st.length - (st.length + 1) = m := by omega
    rw [hm] at hp
    refine reads_step (Q := Q) hC hs ht st listed l' (m + 1) a hcl hl h (fun a' hcl' ha' => ?_)
    refine ⟨fun h0 => (by rw [hr] at h0; rw [h0] at hne; cases hne), fun i hi => ?_⟩
    have hir := hi
    rw [hr] at hi
    have hpi := List.all_eq_true.1 hp i hi
    simp only [Bool.and_eq_true, Bool.not_eq_true'] at hpi
    obtain ⟨hnp, hpi⟩ := hpi
    have h2 := ha' i hi (fun a' w' => Gd ops (Cls wB) k i w w' ∧ wpAnyG P ops (Exit.then Q (fun _ _ _ => False)) (Cls wB) k m (l'.setIfInBounds i true) a' w')
      (fun a'' w'' hb hh => ⟨fun _ => ⟨fun h => (by rw [hnp] at h; cases h), fun _ => regrown_of_below hb⟩, ih i m _ a'' w'' (hcl'.set hir) (regrown_of_below hb) hpi hh⟩)
    unfold wpOp
    unfold wpLoud at h2
    cases ho : ops[i]? with
    | none => rw [ho] at h2; exact h2.elim
    | some o =>
      rw [ho] at h2
      simp only at h2 ⊢
      split
      · rename_i hw; rw [if_pos hw] at h2; exact .inl h2
      · rename_i hw; rw [if_neg hw] at h2; exact h2
theorem treeB_node {wB : World} {st ls : List Nat} {f : Nat → Plan} {a : Act} {w : World}
    (h : wpQuiet P ops (fun w' => ∃ p : Regrown, w' = grow (redrawn wB p.d) p.os) (fun a' => ∀ l ∈ ls, ∀ K : Act → World → Prop, (∀ a'' w'', Below wB.heap.size wB w'' → treeRunB P ops Q wB (f l) a'' w'' → K a'' w'') → wpLoud P ops Q l K a' w) (opsAt ops st) a) :
    treeRunB P ops Q wB (.node st ls f) a w := h
theorem treeB_last {wB : World} {r t : List Nat} {a : Act} {w : World} (h : wpQuiet P ops (fun w' => ∃ p : Regrown, w' = grow (redrawn wB p.d) p.os) (fun a' => wpList P ops (Exit.then Q (fun _ _ _ => False)) (opsAt ops t) a' w) (opsAt ops r) a) : treeRunB P ops Q wB (.last r t) a w := h
theorem wp_region_treeB {id : Nat} {a : Act} {w : World} {R : Exit → Act → World → Prop} (p : Plan) (k : Nat) (hm : P.follows .mixedOrders = true)
    (hp : (Region.noSelect ops && tailOk ops k && treeOk ops k p ops.size (Array.replicate ops.size false)) = true)
    (h : ∀ Q : Act → World → Prop, (∀ a w, R .normal a w → Q a w) → ∀ w', Below w.heap.size w w' → treeRunB P ops Q w' p a w') : (Code.region id ops true).wp P R a w := by
  simp only [Bool.and_eq_true] at hp
  obtain ⟨⟨hs, ht⟩, hp⟩ := hp
  refine Code.wp_mono (Q := Exit.then (fun a w => R .normal a w) (fun _ _ _ => False)) (fun e a w hq => by cases e <;> first | exact hq | exact hq.elim) ?_
  refine wp_region_any hm (wpAny_of_G (S := Cls w.drew) (k := k) _ _ _ _ ?_)
  exact tree_anyB hs ht p _ _ a w.drew Closed.start (Cls.refl _) hp (h _ (fun _ _ h => h) _ (Below.refl _ _).drew)
end
end Go.Proofs.Ytldcehhhndlhdaa
/- The rule of XSeg under its elder second name. -/
namespace Go.Proofs.Ytldcehhhndlhdaa
open Go.RowKit Go.Sort
theorem wp_region_segK {P : Program} {ops : Array Oper} {id : Nat} {a : Act} {w : World} {R : Exit → Act → World → Prop} (segs : List (List Nat × Nat)) (last tail : List Nat) (k : Nat) (hm : P.follows .mixedOrders = true)
    (hp : (Region.noSelect ops && tailOk ops k && planOk ops k segs last tail (Array.replicate ops.size false) && tail.all (fun i => decide (k ≤ i) && decide (i < ops.size)) && decide ((segs.map fun s => s.1.length + 1).sum + last.length + tail.length = ops.size)) = true)
    (h : ∀ Q : Act → World → Prop, (∀ a w, R .normal a w → Q a w) → ∀ w', Below w.heap.size w w' → segRun P ops Q segs last tail a w') : (Code.region id ops true).wp P R a w := wp_region_seg segs last tail k hm hp h
end Go.Proofs.Ytldcehhhndlhdaa
/- What a call owns while it runs: its boxes, its rows, side by side; carried as one fact. No function here; no conditions. -/
namespace Go.Proofs.Ytldcehhhndlhdaa
open Go.RowKit Go.Sort

/-- A thing of the call's own: a box of cells; a row (a slice that may be appended to); any block of which something is known. -/
inductive Item where
  | box (b : Nat) (cs : List Value)
  | own (e size : Nat) (v : Value) (n : Nat) (xs : List Value)
  | any (b : Nat) (p : Obj → Prop)
def Item.blk : Item → Option Nat
  | .box b _ => some b
  | .own _ _ v _ _ => v.ownBlock
  | .any b _ => some b
def Item.ok (base : Nat) (w : World) : Item → Prop
  | .box b cs => base ≤ b ∧ ∃ T, w.heap[b]? = some (.cells cs.toArray T (0, 0))
  | .own e size v n xs => w.ownsRow base e size v n xs
  | .any b p => base ≤ b ∧ ∃ o, w.heap[b]? = some o ∧ p o
/-- Since w0 the call has come to w, which has n blocks; of what was there nothing has turned; these things are its own, and lie apart. -/
structure St (w0 w : World) (n : Nat) (L : List Item) : Prop where
  size : w.heap.size = n
  bel : Below w0.heap.size w0 w
  ok : ∀ x ∈ L, x.ok w0.heap.size w
  apart : (L.filterMap Item.blk).Nodup

section
variable {w0 w w' : World} {n : Nat} {L : List Item}
theorem Item.ok.lt {base : Nat} {x : Item} (h : x.ok base w) {b : Nat} (hb : x.blk = some b) : base ≤ b ∧ b < w.heap.size := by
  cases x with
  | box b' cs =>
    obtain ⟨h1, T, h2⟩ := h
    injection hb with hb
    subst hb
    exact ⟨h1, lt_of_block h2⟩
  | own e size v m xs => exact World.ownsRow.lt h b hb
  | any b' p =>
    obtain ⟨h1, o, h2, _⟩ := h
    injection hb with hb
    subst hb
    exact ⟨h1, lt_of_block h2⟩
theorem Item.ok.same {base : Nat} {x : Item} (h : x.ok base w) (hs : ∀ b, x.blk = some b → w'.heap[b]? = w.heap[b]?) : x.ok base w' := by
  cases x with
  | box b' cs =>
    obtain ⟨h1, T, h2⟩ := h
    exact ⟨h1, T, by rw [hs b' rfl]; exact h2⟩
  | own e size v m xs =>
    refine ⟨h.1, h.2.imp id ?_⟩
    rintro ⟨g, cap, cur, rfl, hb, hh, r⟩
    exact ⟨g, cap, cur, rfl, hb, by rw [hs g rfl]; exact hh, r⟩
  | any b' p =>
    obtain ⟨h1, o, h2, h3⟩ := h
    exact ⟨h1, o, by rw [hs b' rfl]; exact h2, h3⟩
theorem St.init (w : World) : St w w w.heap.size [] := ⟨rfl, Below.refl _ _, by simp, by simp⟩
theorem St.call (h : St w0 w n L) (hb : Below w.heap.size w w') : St w0 w' w'.heap.size L :=
  ⟨rfl, bto h.bel hb, fun x hx => (h.ok x hx).same fun b hbl => hb.block b ((h.ok x hx).lt hbl).2, h.apart⟩
theorem St.drew (h : St w0 w n L) : St w0 w.drew n L := ⟨h.size, h.bel.drew, fun x hx => (h.ok x hx).same fun _ _ => rfl, h.apart⟩
theorem St.lt_of (h : St w0 w n L) {b : Nat} (hb : b ∈ L.filterMap Item.blk) : w0.heap.size ≤ b ∧ b < n := by
  obtain ⟨x, hx, hxb⟩ := List.mem_filterMap.1 hb
  have := (h.ok x hx).lt hxb
  rw [h.size] at this
  exact this
theorem St.push (h : St w0 w n L) (o : Obj) (x : Item) (hx : x.ok w0.heap.size (w.alloc o)) (hb : x.blk = some n) : St w0 (w.alloc o) (n + 1) (x :: L) := by
  refine ⟨by rw [World.size_alloc, h.size], h.bel.alloc h.bel.size _, fun y hy => ?_, ?_⟩
  · rcases List.mem_cons.1 hy with hy | hy
    · rw [hy]; exact hx
    · exact (h.ok y hy).same fun b hbl => Below.heap_alloc _ _ _ ((h.ok y hy).lt hbl).2
  · rw [List.filterMap_cons, hb]
    exact List.nodup_cons.2 ⟨fun hm => by have := (h.lt_of hm).2; omega, h.apart⟩
theorem St.alloc (h : St w0 w n L) (cs : List Value) (T : TypeId) : St w0 (w.alloc (.cells cs.toArray T)) (n + 1) (.box n cs :: L) :=
  h.push _ _ ⟨by have := h.bel.size; have := h.size; omega, T, by rw [← h.size]; exact heap_alloc_new w _⟩ rfl
theorem St.allocO (h : St w0 w n L) (o : Obj) (p : Obj → Prop) (hp : p o) : St w0 (w.alloc o) (n + 1) (.any n p :: L) :=
  h.push _ _ ⟨by have := h.bel.size; have := h.size; omega, o, by rw [← h.size]; exact heap_alloc_new w _, hp⟩ rfl
theorem St.alloc' (h : St w0 w n L) (o : Obj) : St w0 (w.alloc o) (n + 1) L :=
  ⟨by rw [World.size_alloc, h.size], h.bel.alloc h.bel.size _, fun y hy => (h.ok y hy).same fun b hbl => Below.heap_alloc _ _ _ ((h.ok y hy).lt hbl).2, h.apart⟩

theorem nodup_fm {α β : Type} (f : α → Option β) : ∀ (l : List α) (i j : Nat) (x y : α) (b : β), (l.filterMap f).Nodup → l[i]? = some x → l[j]? = some y → f x = some b → f y = some b → i = j
  | [], i, _, _, _, _, _, h, _, _, _ => by simp at h
  | z :: l, 0, 0, _, _, _, _, _, _, _, _ => rfl
  | z :: l, 0, j + 1, x, y, b, hn, hx, hy, h1, h2 => by
    simp at hx
    subst hx
    rw [List.filterMap_cons, h1] at hn
    have := (List.nodup_cons.1 hn).1
    exact absurd (List.mem_filterMap.2 ⟨y, List.mem_of_getElem? (by simpa using hy), h2⟩) this
  | z :: l, i + 1, 0, x, y, b, hn, hx, hy, h1, h2 => by
    simp at hy
    subst hy
    rw [List.filterMap_cons, h2] at hn
    have := (List.nodup_cons.1 hn).1
    exact absurd (List.mem_filterMap.2 ⟨x, List.mem_of_getElem? (by simpa using hx), h1⟩) this
  | z :: l, i + 1, j + 1, x, y, b, hn, hx, hy, h1, h2 => by
    have hn' : (l.filterMap f).Nodup := by
      rw [List.filterMap_cons] at hn
      split at hn
      · exact hn
      · exact (List.nodup_cons.1 hn).2
    have := nodup_fm f l i j x y b hn' (by simpa using hx) (by simpa using hy) h1 h2
    omega
theorem nodup_set {α β : Type} (f : α → Option β) (x y : α) (P : β → Prop) (hP : ∀ b, P b → f x = some b ∨ True) : ∀ (l : List α) (i : Nat), (l.filterMap f).Nodup → l[i]? = some x → (∀ b, f y = some b → f x = some b ∨ b ∉ l.filterMap f) → ((l.set i y).filterMap f).Nodup
  | [], _, _, h, _ => by simp at h
  | z :: l, 0, hn, hx, hy => by
    simp at hx
    subst hx
    simp only [List.set_cons_zero]
    have hn' : (l.filterMap f).Nodup := by
      rw [List.filterMap_cons] at hn
      split at hn
      · exact hn
      · exact (List.nodup_cons.1 hn).2
    rw [List.filterMap_cons]
    split
    · exact hn'
    · rename_i b hb
      refine List.nodup_cons.2 ⟨fun hm => ?_, hn'⟩
      rcases hy b hb with h | h
      · rw [List.filterMap_cons, h] at hn
        exact (List.nodup_cons.1 hn).1 hm
      · refine h ?_
        rw [List.filterMap_cons]
        split
        · exact hm
        · exact List.mem_cons_of_mem _ hm
  | z :: l, i + 1, hn, hx, hy => by
    simp only [List.set_cons_succ]
    have hx' : l[i]? = some x := by simpa using hx
    rw [List.filterMap_cons] at hn ⊢
    split at hn
    · rename_i hz
      refine nodup_set f x y P hP l i hn hx' (fun b hb => ?_)
      have := hy b hb
      rw [List.filterMap_cons, hz] at this
      exact this
    · rename_i c hz
      obtain ⟨h1, h2⟩ := List.nodup_cons.1 hn
      refine List.nodup_cons.2 ⟨fun hm => ?_, nodup_set f x y P hP l i h2 hx' (fun b hb => ?_)⟩
      · obtain ⟨u, hu, hub⟩ := List.mem_filterMap.1 hm
        rcases List.mem_or_eq_of_mem_set hu with hu | rfl
        · exact h1 (List.mem_filterMap.2 ⟨u, hu, hub⟩)
        · rcases hy c hub with h | h
          · exact h1 (List.mem_filterMap.2 ⟨x, List.mem_of_getElem? hx', h⟩)
          · exact h (by rw [List.filterMap_cons, hz]; exact List.mem_cons_self ..)
      · rcases hy b hb with h | h
        · exact .inl h
        · refine .inr fun hm => h ?_
          rw [List.filterMap_cons, hz]
          exact List.mem_cons_of_mem _ hm

/-- One thing of the call's own has turned: its block was written, or it lies in a new one. -/
theorem St.turn (h : St w0 w n L) (i : Nat) {x : Item} (y : Item) (hi : L[i]? = some x) (hg : w.grownBy w' x.blk) (hy : y.ok w0.heap.size w') (hb : ∀ b, y.blk = some b → x.blk = some b ∨ n ≤ b) : St w0 w' w'.heap.size (L.set i y) := by
  have hx := h.ok x (List.mem_of_getElem? hi)
  refine ⟨rfl, ?_, fun z hz => ?_, ?_⟩
  · refine h.bel.trans ⟨hg.os, hg.tape, hg.output, hg.size, fun k hk => hg.block k (by have := h.bel.size; omega) (fun e => ?_)⟩
    have := (hx.lt e.symm).1
    omega
  · rw [List.mem_iff_getElem?] at hz
    obtain ⟨j, hj⟩ := hz
    by_cases hij : i = j
    · subst hij
      rw [List.getElem?_set_self (by exact (List.getElem?_eq_some_iff.1 hi).1)] at hj
      injection hj with hj
      subst hj
      exact hy
    · rw [List.getElem?_set_ne hij] at hj
      have hzk := h.ok z (List.mem_of_getElem? hj)
      refine hzk.same fun b hzb => hg.block b (hzk.lt hzb).2 (fun e => ?_)
      exact hij (nodup_fm Item.blk L i j x z b h.apart hi hj e.symm hzb)
  · refine nodup_set Item.blk x y (fun _ => False) (fun _ h => h.elim) L i h.apart hi (fun b hyb => ?_)
    rcases hb b hyb with e | e
    · exact .inl e
    · refine .inr fun hm => ?_
      have := (h.lt_of hm).2
      omega
theorem grown_setCell (w : World) (a : Addr) (u : Value) : w.grownBy (w.setCell a u) (some a.block) := ⟨rfl, rfl, rfl, by simp [World.setCell], fun k _ hk => Below.heap_setCell _ _ _ k (fun e => hk (by rw [e]))⟩
/-- A store into a box. -/
theorem St.set (h : St w0 w n L) (i : Nat) {b : Nat} {cs : List Value} (o : Nat) (v : Value) (hi : L[i]? = some (.box b cs)) : St w0 (w.setCell ⟨b, o, none⟩ v) n (L.set i (.box b (cs.set o v))) := by
  obtain ⟨h1, T, h2⟩ := h.ok _ (List.mem_of_getElem? hi)
  have key := h.turn i (w' := w.setCell ⟨b, o, none⟩ v) (.box b (cs.set o v)) hi (grown_setCell w ⟨b, o, none⟩ v) ⟨h1, T, ?_⟩ (fun _ e => .inl e)
  · have e : (w.setCell ⟨b, o, none⟩ v).heap.size = n := by rw [← h.size]; simp [World.setCell]
    rw [e] at key
    exact key
  · have hlt := lt_of_block h2
    have h' : w.heap[b] = .cells cs.toArray T (0, 0) := by simpa [Array.getElem?_eq_getElem hlt] using h2
    show (w.heap.modify b _)[b]? = _
    rw [Array.getElem?_eq_getElem (by simpa using hlt), Array.getElem_modify_self, h']
    simp
/-- A store into a row. -/
theorem St.put (h : St w0 w n L) (i : Nat) {e size g m cap : Nat} {xs : List Value} (o : Nat) (v : Value) (hi : L[i]? = some (.own e size (.slice (some ⟨g, 0, none⟩) m cap) m xs)) : St w0 (w.setCell ⟨g, o, none⟩ v) n (L.set i (.own e size (.slice (some ⟨g, 0, none⟩) m cap) m (xs.set o v))) := by
  have hx : w.ownsRow w0.heap.size e size (.slice (some ⟨g, 0, none⟩) m cap) m xs := h.ok _ (List.mem_of_getElem? hi)
  have key := h.turn i (w' := w.setCell ⟨g, o, none⟩ v) (.own e size (.slice (some ⟨g, 0, none⟩) m cap) m (xs.set o v)) hi (grown_setCell w ⟨g, o, none⟩ v) (hx.stored o v).1 (fun _ e => .inl e)
  have e : (w.setCell ⟨g, o, none⟩ v).heap.size = n := by rw [← h.size]; simp [World.setCell]
  rw [e] at key
  exact key
/-- An append to a row. -/
theorem St.grown (h : St w0 w n L) (i : Nat) {e size m : Nat} {v : Value} {xs : List Value} (hi : L[i]? = some (.own e size v m xs)) {m' : Nat} {v' : Value} {xs' : List Value} (ho : w'.ownsRow w0.heap.size e size v' m' xs') (hg : w.grownBy w' v.ownBlock) (hv : v'.ownBlock = v.ownBlock ∨ v'.ownBlock = some w.heap.size) : St w0 w' w'.heap.size (L.set i (.own e size v' m' xs')) :=
  h.turn i _ hi hg ho fun b hb => hv.imp (fun e => e.symm.trans hb) (fun e => by have : v'.ownBlock = some b := hb; rw [e] at this; injection this with this; have := h.size; omega)
/-- What a call hands back in new memory. -/
theorem St.take (h : St w0 w n L) (hb : Below w.heap.size w w') {e size m : Nat} {v : Value} {xs : List Value} (ho : w'.ownsRow w.heap.size e size v m xs) : St w0 w' w'.heap.size (.own e size v m xs :: L) := by
  have h2 := h.call hb
  refine ⟨rfl, h2.bel, fun x hx => ?_, ?_⟩
  · rcases List.mem_cons.1 hx with hx | hx
    · rw [hx]; exact own_base' ho h.bel.size
    · exact h2.ok x hx
  · rw [List.filterMap_cons]
    split
    · exact h.apart
    · rename_i b hb'
      refine List.nodup_cons.2 ⟨fun hm => ?_, h.apart⟩
      have h3 := (ho.lt b hb').1
      have h4 := (h.lt_of hm).2
      have := h.size
      omega
/-- An own row that is nil. -/
theorem St.nil (h : St w0 w n L) (e size : Nat) : St w0 w n (.own e size (.slice none 0 0) 0 [] :: L) := by
  refine ⟨h.size, h.bel, fun x hx => ?_, ?_⟩
  · rcases List.mem_cons.1 hx with hx | hx
    · rw [hx]; exact World.ownsRow_nil _ _ _ _
    · exact h.ok x hx
  · have e0 : (Item.own e size (.slice none 0 0) 0 []).blk = none := rfl
    rw [List.filterMap_cons, e0]
    exact h.apart
/-- Fewer things. -/
theorem St.less (h : St w0 w n L) {M : List Item} (hs : M.Sublist L) : St w0 w n M := ⟨h.size, h.bel, fun x hx => h.ok x (hs.subset hx), h.apart.sublist (hs.filterMap _)⟩
theorem St.fix (h : St w0 w n L) : St w0 w w.heap.size L := ⟨rfl, h.bel, h.ok, h.apart⟩
theorem St.tail {x : Item} (h : St w0 w n (x :: L)) : St w0 w n L := h.less (List.sublist_cons_self _ _)
theorem St.perm (h : St w0 w n L) {M : List Item} (hp : L.Perm M) : St w0 w n M :=
  ⟨h.size, h.bel, fun x hx => h.ok x (hp.mem_iff.2 hx), (hp.filterMap _).nodup_iff.1 h.apart⟩
/-- The two things behind the first ones come to the front, and back. -/
theorem St.rot2 (F : List Item) {x y : Item} {K : List Item} (h : St w0 w n (F ++ x :: y :: K)) : St w0 w n (x :: y :: (F ++ K)) := by
  refine h.perm ?_
  have h1 : (F ++ ([x, y] ++ K)).Perm ([x, y] ++ (F ++ K)) := List.perm_append_comm_assoc F [x, y] K
  exact h1
theorem St.unrot2 (F : List Item) {x y : Item} {K : List Item} (h : St w0 w n (x :: y :: (F ++ K))) : St w0 w n (F ++ x :: y :: K) := by
  refine h.perm ?_
  have h1 : (F ++ ([x, y] ++ K)).Perm ([x, y] ++ (F ++ K)) := List.perm_append_comm_assoc F [x, y] K
  exact h1.symm
theorem St.cut (h : St w0 w n L) (k : Nat) : St w0 w n (L.take k) := h.less (List.take_sublist _ _)
theorem St.drop (h : St w0 w n L) (i : Nat) : St w0 w n (L.eraseIdx i) := h.less (List.eraseIdx_sublist _ _)

/-! What is read. -/
theorem St.get (h : St w0 w n L) (i o : Nat) {b : Nat} {cs : List Value} {v : Value} (hi : L[i]? = some (.box b cs)) (hv : cs[o]? = some v) : w.cell? ⟨b, o, none⟩ = some v := by
  obtain ⟨h1, T, h2⟩ := h.ok _ (List.mem_of_getElem? hi)
  simp [World.cell?, h2, hv]
theorem St.free (h : St w0 w n L) (i o : Nat) {b : Nat} {cs : List Value} (hi : L[i]? = some (.box b cs)) : w.frozen? ⟨b, o, none⟩ = false := by
  obtain ⟨h1, T, h2⟩ := h.ok _ (List.mem_of_getElem? hi)
  simp [World.frozen?, h2]
theorem St.lt (h : St w0 w n L) (i : Nat) {b : Nat} {cs : List Value} (hi : L[i]? = some (.box b cs)) : b < w.heap.size := by
  obtain ⟨h1, T, h2⟩ := h.ok _ (List.mem_of_getElem? hi)
  exact lt_of_block h2
theorem St.own (h : St w0 w n L) (i : Nat) {e size m : Nat} {v : Value} {xs : List Value} (hi : L[i]? = some (.own e size v m xs)) : w.ownsRow w0.heap.size e size v m xs := h.ok _ (List.mem_of_getElem? hi)
theorem St.row (h : St w0 w n L) (i : Nat) {e size m : Nat} {v : Value} {xs : List Value} (hi : L[i]? = some (.own e size v m xs)) : Reads w size v m xs := Reads.of_own (h.own i hi)
theorem St.ints (h : St w0 w n L) (i : Nat) {e m : Nat} {v : Value} {xs : List Int} (hi : L[i]? = some (.own e 1 v m (xs.map I))) : Ints w v xs := Ints.of_own (h.own i hi)
theorem St.obj (h : St w0 w n L) (i : Nat) {b : Nat} {p : Obj → Prop} (hi : L[i]? = some (.any b p)) : ∃ o, w.heap[b]? = some o ∧ p o := (h.ok _ (List.mem_of_getElem? hi)).2
theorem St.row? (h : St w0 w n L) (i : Nat) {b : Nat} {cs : List Value} (hi : L[i]? = some (.box b cs)) : ∃ T, w.heap[b]? = some (.cells cs.toArray T (0, 0)) := (h.ok _ (List.mem_of_getElem? hi)).2
theorem St.baseO (h : St w0 w n L) (i : Nat) {b : Nat} {p : Obj → Prop} (hi : L[i]? = some (.any b p)) : w0.heap.size ≤ b := (h.ok _ (List.mem_of_getElem? hi)).1
theorem St.base (h : St w0 w n L) (i : Nat) {b : Nat} {cs : List Value} (hi : L[i]? = some (.box b cs)) : w0.heap.size ≤ b := (h.ok _ (List.mem_of_getElem? hi)).1
end
end Go.Proofs.Ytldcehhhndlhdaa
