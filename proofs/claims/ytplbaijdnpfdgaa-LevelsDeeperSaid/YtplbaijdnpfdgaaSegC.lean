/- A region that draws its order, whose reads meet a class of worlds of one's own: here, all that differ in one block. -/
import Derived.Test.YtplbaijdnpfdgaaSegT
namespace Go.Proofs.Ytplbaijdnpfdgaa
open Go.RowKit Go.Sort
section
variable {P : Program} {ops : Array Oper} {Q : Act → World → Prop} {k : Nat}
def treeRunC (P : Program) (ops : Array Oper) (Q : Act → World → Prop) (C : World → Prop) : Plan → Act → World → Prop
  | .last r t, a, w => wpQuiet P ops C (fun a' => wpList P ops (Exit.then Q (fun _ _ _ => False)) (opsAt ops t) a' w) (opsAt ops r) a
  | .node st ls f, a, w => wpQuiet P ops C (fun a' => ∀ l ∈ ls, ∀ K : Act → World → Prop, (∀ a'' w'', C w'' → treeRunC P ops Q C (f l) a'' w'' → K a'' w'') → wpLoud P ops Q l K a' w) (opsAt ops st) a
theorem tree_anyC {C : World → Prop} (hs : Region.noSelect ops = true) (ht : tailOk ops k = true) : ∀ (p : Plan) (n : Nat) (listed : Array Bool) (a : Act) (w : World), Closed ops listed → C w → treeOk ops k p n listed = true →
    treeRunC P ops Q C p a w → wpAnyG P ops (Exit.then Q (fun _ _ _ => False)) C k n listed a w := by
  intro p
  induction p with
  | last r t =>
    intro n listed a w hcl hC hp h
    simp only [treeOk] at hp
    split at hp
    case h_2 => cases hp
    rename_i l hl
    simp only [Bool.and_eq_true, decide_eq_true_eq] at hp
    obtain ⟨⟨hp, hn⟩, hk⟩ := hp
    subst hn
    have hk' : ∀ i ∈ t, k ≤ i ∧ i < ops.size := fun i hi => by simpa using List.all_eq_true.1 hk i hi
    have := reads_step (Q := Q) hC hs ht r listed l t.length a hcl hl h (fun a' _ ha' => end_step t l a' w hp hk' ha')
    simpa [Nat.add_comm] using this
  | node st ls f ih =>
    intro n listed a w hcl hC hp h
    simp only [treeOk] at hp
    split at hp
    case h_2 => cases hp
    rename_i l' hl
    simp only [Bool.and_eq_true, beq_iff_eq, decide_eq_true_eq, Bool.not_eq_true'] at hp
    obtain ⟨⟨⟨hr, hne⟩, hn⟩, hp⟩ := hp
    obtain ⟨m, rfl⟩ : ∃ m, n = m + 1 + st.length := ⟨n - (st.length + 1), by omega⟩
    have hm : m + 1 + st.length - (st.length + 1) = m := by omega
    rw [hm] at hp
    refine reads_step (Q := Q) hC hs ht st listed l' (m + 1) a hcl hl h (fun a' hcl' ha' => ?_)
    refine ⟨fun h0 => (by rw [hr] at h0; rw [h0] at hne; cases hne), fun i hi => ?_⟩
    have hir := hi
    rw [hr] at hi
    have hpi := List.all_eq_true.1 hp i hi
    simp only [Bool.and_eq_true, Bool.not_eq_true'] at hpi
    obtain ⟨hnp, hpi⟩ := hpi
    have h2 := ha' i hi (fun a' w' => Gd ops C k i w w' ∧ wpAnyG P ops (Exit.then Q (fun _ _ _ => False)) C k m (l'.setIfInBounds i true) a' w')
      (fun a'' w'' hb hh => ⟨fun _ => ⟨fun h => (by rw [hnp] at h; cases h), fun _ => hb⟩, ih i m _ a'' w'' (hcl'.set hir) hb hpi hh⟩)
    unfold wpOp
    unfold wpLoud at h2
    cases ho : ops[i]? with
    | none => rw [ho] at h2; exact h2.elim
    | some o =>
      rw [ho] at h2
      simp only at h2 ⊢
      split
      · rename_i hw; rw [if_pos hw] at h2; exact .inl h2
      · rename_i hw; rw [if_neg hw] at h2; exact h2
theorem wp_region_treeC {id : Nat} {a : Act} {w : World} {R : Exit → Act → World → Prop} (p : Plan) (k : Nat) (hm : P.follows .mixedOrders = true)
    (hp : (Region.noSelect ops && tailOk ops k && treeOk ops k p ops.size (Array.replicate ops.size false)) = true)
    (h : ∀ Q : Act → World → Prop, (∀ a w, R .normal a w → Q a w) → ∀ w', Below w.heap.size w w' → ∃ C : World → Prop, C w' ∧ treeRunC P ops Q C p a w') : (Code.region id ops true).wp P R a w := by
  simp only [Bool.and_eq_true] at hp
  obtain ⟨⟨hs, ht⟩, hp⟩ := hp
  refine Code.wp_mono (Q := Exit.then (fun a w => R .normal a w) (fun _ _ _ => False)) (fun e a w hq => by cases e <;> first | exact hq | exact hq.elim) ?_
  obtain ⟨C, hC, hrun⟩ := h _ (fun _ _ h => h) w.drew (Below.refl _ _).drew
  refine wp_region_any hm (wpAny_of_G (S := C) (k := k) _ _ _ _ ?_)
  exact tree_anyC hs ht p _ _ a w.drew Closed.start hC hp hrun

/-! One block may differ. -/
structure Patch where
  o : Obj
  d : Nat
  os : Array Obj
  deriving Inhabited
def putB (w : World) (g : Nat) (o : Obj) : World := { w with heap := w.heap.setIfInBounds g o }
theorem putB_below (w : World) (g : Nat) (o : Obj) {b c : Nat} (h : b ≠ g) : (putB w g o).cell? ⟨b, c, none⟩ = w.cell? ⟨b, c, none⟩ :=
  World.cell?_of_block (by show (w.heap.setIfInBounds g o)[b]? = _; rw [Array.getElem?_setIfInBounds_ne (Ne.symm h)])
theorem cell_patched {w : World} {g b c : Nat} {v : Value} (h : w.cell? ⟨b, c, none⟩ = some v) (hne : b ≠ g) (o : Obj) (d : Nat) (os : Array Obj) : (grow (redrawn (putB w g o) d) os).cell? ⟨b, c, none⟩ = some v :=
  cell_regrown (by rw [putB_below w g o hne]; exact h) d os
abbrev CP (w : World) (g : Nat) : World → Prop := fun w' => ∃ p : Patch, w' = grow (redrawn (putB w g p.o) p.d) p.os
theorem CP.of {w w' : World} {g : Nat} (h : w.grownBy w' (some g)) (hg : g < w.heap.size) : CP w g w' := by
  have hg' : g < w'.heap.size := Nat.lt_of_lt_of_le hg h.size
  have hb : Below (putB w g (w'.heap[g]'hg')).heap.size (putB w g (w'.heap[g]'hg')) w' := by
    refine ⟨h.os, h.tape, h.output, by show (w.heap.setIfInBounds g _).size ≤ _; simpa using h.size, fun k hk => ?_⟩
    have hk' : k < w.heap.size := by have : k < (w.heap.setIfInBounds g (w'.heap[g]'hg')).size := hk; simpa using this
    show w'.heap[k]? = (w.heap.setIfInBounds g _)[k]?
    by_cases hkg : k = g
    · subst hkg
      rw [Array.getElem?_setIfInBounds_self_of_lt hk', Array.getElem?_eq_getElem hg']
    · rw [Array.getElem?_setIfInBounds_ne (fun e => hkg e.symm)]
      exact h.block k hk' (fun e => hkg (by simpa using e))
  obtain ⟨p, hp⟩ := regrown_of_below hb
  exact ⟨⟨_, p.d, p.os⟩, hp⟩
theorem CP.refl (w : World) {g : Nat} (hg : g < w.heap.size) : CP w g w := CP.of ⟨rfl, rfl, rfl, Nat.le_refl _, fun _ _ _ => rfl⟩ hg
theorem treeC_node {w0 : World} {g : Nat} {st ls : List Nat} {f : Nat → Plan} {a : Act} {w : World}
    (h : wpQuiet P ops (fun w' => ∃ p : Patch, w' = grow (redrawn (putB w0 g p.o) p.d) p.os) (fun a' => ∀ l ∈ ls, ∀ K : Act → World → Prop, (∀ a'' w'', CP w0 g w'' → treeRunC P ops Q (CP w0 g) (f l) a'' w'' → K a'' w'') → wpLoud P ops Q l K a' w) (opsAt ops st) a) :
    treeRunC P ops Q (CP w0 g) (.node st ls f) a w := h
theorem treeC_last {w0 : World} {g : Nat} {r t : List Nat} {a : Act} {w : World} (h : wpQuiet P ops (fun w' => ∃ p : Patch, w' = grow (redrawn (putB w0 g p.o) p.d) p.os) (fun a' => wpList P ops (Exit.then Q (fun _ _ _ => False)) (opsAt ops t) a' w) (opsAt ops r) a) : treeRunC P ops Q (CP w0 g) (.last r t) a w := h
end
end Go.Proofs.Ytplbaijdnpfdgaa
