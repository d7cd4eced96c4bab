/- A region that draws its order (XSeg), where the last operations wait for the reads, and for each other in any way. Conditions: the plan is one that the region's edges bear out (asked by a Bool). -/
import Derived.Test.YtbddaemekgflmaaSeg
namespace Go.Proofs.Ytbddaemekgflmaa
open Go.RowKit Go.Sort

section
variable {P : Program} {ops : Array Oper} {Q : Exit → Act → World → Prop} {S : World → Prop} {k : Nat}
/-- The operations from number k on wait for all that stand ahead of number k. -/
def tailK (ops : Array Oper) (k : Nat) : Bool :=
  (List.range ops.size).all fun i => decide (i < k) || ((ops[i]?).map fun o => (List.range k).all fun j => o.after.any fun e => Region.binds .any e && e.on == j).getD false
theorem tailK_spec (h : tailK ops k = true) {i j : Nat} {o : Oper} (ho : ops[i]? = some o) (hk : k ≤ i) (hj : j < k) : ∃ e ∈ o.after, Region.binds .any e = true ∧ e.on = j := by
  have hi : i < ops.size := (Array.getElem?_eq_some_iff.1 ho).1
  have h1 := List.all_eq_true.1 h i (List.mem_range.2 hi)
  rw [ho] at h1
  simp only [Option.map_some, Option.getD_some, Bool.or_eq_true, decide_eq_true_eq] at h1
  rcases h1 with h1 | h1
  · omega
  · have h2 := List.all_eq_true.1 h1 j (List.mem_range.2 hj)
    obtain ⟨e, he, hb⟩ := Array.any_eq_true'.1 h2
    simp only [Bool.and_eq_true, beq_iff_eq] at hb
    exact ⟨e, he, hb.1, hb.2⟩

/-- A read that may come up now may be taken first. -/
theorem wpAnyK_first {i : Nat} {oi : Oper} {v : Value} (hi : ops[i]? = some oi) (hsel : ∀ (j : Nat) (o : Oper) cs b, ops[j]? = some o → o.op ≠ .select cs b) (hik : i < k) (htail : tailK ops k = true)
    (hQ : ∀ c a w, Q (.panic c) (a.put oi.dst v) w → Q (.panic c) a w) :
    ∀ (fuel : Nat) (listed : Array Bool) (a : Act) (w : World),
      (∀ j oj, ops[j]? = some oj → j ≠ i → listed.getD j true = false → (∀ e ∈ oj.after, Region.binds .any e = true → e.on ≠ i) → oi.apart ops oj = true) →
      i ∈ Region.ready .any ops listed → YieldsIf P ops S oi v a → S w →
      wpAnyG P ops Q S k fuel (listed.setIfInBounds i true) (a.put oi.dst v) w → wpAnyG P ops Q S k (fuel + 1) listed a w := by
  intro fuel
  induction fuel with
  | zero =>
    intro listed a w _ hr hy hS H
    refine ⟨fun h => (by rw [h] at hr; cases hr), fun j hj => ?_⟩
    by_cases hji : j = i
    · subst hji; exact hy.wpOp hi hS ⟨fun _ => hS, H⟩
    · have h1 := ready_mono hj hji
      rw [H.1] at h1
      cases h1
  | succ fuel ih =>
    intro listed a w hfree hr hy hS H
    refine ⟨fun h => (by rw [h] at hr; cases hr), fun j hj => ?_⟩
    by_cases hji : j = i
    · subst hji; exact hy.wpOp hi hS ⟨fun _ => hS, H⟩
    · obtain ⟨hjun, oj, hoj, hall⟩ := mem_ready.1 hj
      have hnot : ∀ e ∈ oj.after, Region.binds .any e = true → e.on ≠ i := fun e he hb => listed_of_ready hr hj hoj he hb
      have hjk : j < k := by
        rcases Nat.lt_or_ge j k with h | h
        · exact h
        · obtain ⟨e, he, hb, hon⟩ := tailK_spec htail hoj h hik
          exact absurd hon (hnot e he hb)
      refine wpOp_mono (fun a' w' h3 => ?_) (wpOp_putIf hoj (hfree j oj hoj hji hjun hnot) (fun cs b => hsel i oi cs b hi) (fun cs b => hsel j oj cs b hoj) hQ hy (H.2 j (ready_mono hj hji)))
      have hS' := h3.2.1 hjk
      refine ⟨fun _ => hS', ih (listed.setIfInBounds j true) a' w' (fun m om hm hmi hmun hmno => ?_) (ready_mono hr (Ne.symm hji)) h3.1 hS' ?_⟩
      · refine hfree m om hm hmi ?_ hmno
        by_cases hjm : j = m
        · subst hjm; exact hjun
        · rw [getD_set_ne true hjm] at hmun; exact hmun
      · rw [Array.setIfInBounds_comm _ _ hji]
        exact h3.2.2
end

section
variable {P : Program} {ops : Array Oper} {Q : Act → World → Prop} {k : Nat}
theorem reads_stepK {w : World} {K : Act → Prop} (hs : Region.noSelect ops = true) (ht : tailK ops k = true) :
    ∀ (st : List Nat) (listed l' : Array Bool) (fuel : Nat) (a : Act), readsOk ops k st listed = some l' →
      wpQuiet P ops (Cls w) K (opsAt ops st) a → (∀ a', K a' → wpAnyG P ops (Exit.then Q (fun _ _ _ => False)) (Cls w) k fuel l' a' w) →
      wpAnyG P ops (Exit.then Q (fun _ _ _ => False)) (Cls w) k (fuel + st.length) listed a w := by
  intro st
  induction st with
  | nil => intro listed l' fuel a h hq hk; simp only [readsOk, Option.some.injEq] at h; subst h; exact hk _ hq
  | cons i st ih =>
    intro listed l' fuel a h hq hk
    simp only [readsOk] at h
    split at h
    case isFalse => cases h
    rename_i hc
    simp only [Bool.and_eq_true, decide_eq_true_eq] at hc
    obtain ⟨⟨⟨h1, h2⟩, h3⟩, h4⟩ := hc
    cases ho : ops[i]? with
    | none => rw [ho] at h3; simp at h3
    | some o =>
      rw [ho] at h3
      have h3 : stillKind o = true := by simpa using h3
      have e : opsAt ops (i :: st) = o :: opsAt ops st := by simp [opsAt, ho]
      rw [e] at hq
      show wpAnyG P ops (Exit.then Q (fun _ _ _ => False)) (Cls w) k (fuel + st.length + 1) listed a w
      by_cases hw : Region.wanted o (yielded ops a.tmps) = true
      · unfold wpQuiet at hq
        rw [if_pos hw] at hq
        obtain ⟨v, hv, hn⟩ := hq
        refine wpAnyK_first ho (Region.noSelect_spec hs) h4 ht (fun _ _ _ h => h) _ _ _ _ (Region.free_spec ho h2) (by simpa using h1) (.inl ⟨hw, fun w' hw' => ?_⟩) (Cls.refl w) (ih _ _ fuel _ h hn hk)
        have hv' := hv w' hw'
        unfold Oper.quietAt at hv'
        cases hr : (execOp a.eval o).run P w' with
        | ok n w1 =>
          obtain ⟨u, rfl⟩ := stillKind_value h3 hr
          rw [hr] at hv'
          obtain ⟨e1, e2⟩ := hv'
          rw [e1, e2]
        | halt x w1 => rw [hr] at hv'; exact hv'.elim
      · unfold wpQuiet at hq
        rw [if_neg hw] at hq
        exact wpAnyK_first ho (Region.noSelect_spec hs) h4 ht (fun _ _ _ h => h) _ _ _ _ (Region.free_spec ho h2) (by simpa using h1) (.inr ⟨by simpa using hw, rfl⟩) (Cls.refl w) (ih _ _ fuel _ h hq hk)

theorem seg_anyK (hs : Region.noSelect ops = true) (ht : tailK ops k = true) : ∀ (segs : List (List Nat × Nat)) (last tail : List Nat) (listed : Array Bool) (a : Act) (w : World), planOk ops k segs last tail listed = true → (∀ i ∈ tail, k ≤ i ∧ i < ops.size) →
    segRun P ops Q segs last tail a w → wpAnyG P ops (Exit.then Q (fun _ _ _ => False)) (Cls w) k ((segs.map fun s => s.1.length + 1).sum + last.length + tail.length) listed a w := by
  intro segs
  induction segs with
  | nil =>
    intro last tail listed a w hp hk h
    simp only [planOk] at hp
    split at hp
    case h_2 => cases hp
    rename_i l hl
    have := reads_stepK (Q := Q) hs ht last listed l tail.length a hl h (fun a' ha' => end_step tail l a' w hp hk ha')
    simpa [Nat.add_comm] using this
  | cons sg segs ih =>
    obtain ⟨st, l⟩ := sg
    intro last tail listed a w hp hk h
    simp only [planOk] at hp
    split at hp
    case h_2 => cases hp
    rename_i l' hl
    simp only [Bool.and_eq_true, beq_iff_eq] at hp
    obtain ⟨hr, hp⟩ := hp
    have key := reads_stepK (Q := Q) hs ht st listed l' ((segs.map fun s => s.1.length + 1).sum + last.length + tail.length + 1) a hl h (fun a' ha' => ?_)
    · have e : ((((st, l) :: segs).map fun s => s.1.length + 1).sum + last.length + tail.length) = (segs.map fun s => s.1.length + 1).sum + last.length + tail.length + 1 + st.length := by
        simp only [List.map_cons, List.sum_cons]; omega
      rw [e]
      exact key
    · refine ⟨fun h0 => (by rw [hr] at h0; cases h0), fun i hi => ?_⟩
      rw [hr, List.mem_singleton] at hi
      subst hi
      have h2 := ha' (fun a' w' => (i < k → Cls w w') ∧ wpAnyG P ops (Exit.then Q (fun _ _ _ => False)) (Cls w) k ((segs.map fun s => s.1.length + 1).sum + last.length + tail.length) (l'.setIfInBounds i true) a' w')
        (fun a'' w'' hb hh => ⟨fun _ => regrown_of_below hb, wpAnyG_mono (fun _ hc => Cls.trans hb hc) _ _ _ _ (ih last tail _ a'' w'' hp hk hh)⟩)
      unfold wpOp
      unfold wpLoud at h2
      cases ho : ops[i]? with
      | none => rw [ho] at h2; exact h2.elim
      | some o =>
        rw [ho] at h2
        simp only at h2 ⊢
        split
        · rename_i hw; rw [if_pos hw] at h2; exact .inl h2
        · rename_i hw; rw [if_neg hw] at h2; exact h2

theorem wp_region_segK {id : Nat} {a : Act} {w : World} {R : Exit → Act → World → Prop} (segs : List (List Nat × Nat)) (last tail : List Nat) (k : Nat) (hm : P.follows .mixedOrders = true)
    (hp : (Region.noSelect ops && tailK ops k && planOk ops k segs last tail (Array.replicate ops.size false) && tail.all (fun i => decide (k ≤ i) && decide (i < ops.size)) && decide ((segs.map fun s => s.1.length + 1).sum + last.length + tail.length = ops.size)) = true)
    (h : ∀ Q : Act → World → Prop, (∀ a w, R .normal a w → Q a w) → ∀ w', Below w.heap.size w w' → segRun P ops Q segs last tail a w') : (Code.region id ops true).wp P R a w := by
  simp only [Bool.and_eq_true, decide_eq_true_eq] at hp
  obtain ⟨⟨⟨⟨hs, ht⟩, hp⟩, hk⟩, he⟩ := hp
  have hk' : ∀ i ∈ tail, k ≤ i ∧ i < ops.size := fun i hi => by simpa using List.all_eq_true.1 hk i hi
  refine Code.wp_mono (Q := Exit.then (fun a w => R .normal a w) (fun _ _ _ => False)) (fun e a w hq => by cases e <;> first | exact hq | exact hq.elim) ?_
  refine wp_region_any hm (wpAny_of_G (S := Cls w.drew) (k := k) _ _ _ _ ?_)
  have key := seg_anyK hs ht segs last tail _ a w.drew hp hk' (h _ (fun _ _ h => h) _ (Below.refl _ _).drew)
  rw [he] at key
  exact key
end
end Go.Proofs.Ytbddaemekgflmaa
