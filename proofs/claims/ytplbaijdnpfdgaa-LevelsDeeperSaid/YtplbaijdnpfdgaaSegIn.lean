/- The rules for regions that draw their order, in a round of a range over a function. No function here; no conditions. -/
import Derived.Test.YtplbaijdnpfdgaaSegC
import Derived.Test.YtplbaijdnpfdgaaSegK
import Derived.OrdersIn
import Derived.RangeFuncCalls
import Derived.TacticsIn
namespace Go.Proofs.Ytplbaijdnpfdgaa
open Go.RowKit
section
variable {P : Program} {ops : Array Oper} {l n : Nat}
/-- No operation of the region is a 'defer'. -/
def noDefer (ops : Array Oper) : Bool := ops.all fun o => match o.op with | .defer _ => false | _ => true
theorem rowsIn_round {row : String} {args : Array Value} {w : World} {R : Value → World → Prop} (h : Rows P row args w R) : RowsIn (Fence.wide.inRound l) n P row args w R := fun c cs _ =>
  let ⟨v, w', r, s⟩ := h c cs
  ⟨v, w', r, stepsIn_wide.2 s⟩
theorem op_in {o : Oper} {a : Act} {w : World} {K : Act → World → Prop} {Q : Exit → Act → World → Prop} (hd : ∀ c, o.op ≠ .defer c) (h : o.wp P a w K Q) : o.wpIn (Fence.wide.inRound l) n P a w K Q := by
  refine ⟨fun _ _ => trivial, ?_⟩
  unfold Oper.wp at h
  rw [Fence.inRound_round, Oper.semAt_some l a.eval o hd]
  generalize (execOp a.eval o).run P w = r at h
  cases r with
  | ok x w' =>
    cases x <;> simp only [Oper.upon, Oper.uponIn] at h ⊢ <;> first | exact h | exact h.elim | exact ⟨fun h' => by simp [Fence.wide] at h', CallsIn.inRound l (callsIn_wide.2 h)⟩ | exact ⟨fun h' => by simp [Fence.wide] at h', rowsIn_round h⟩
  | halt x w' => cases x <;> simp only [Oper.upon, Oper.uponIn] at h ⊢ <;> exact h
theorem noDefer_at (h : noDefer ops = true) {i : Nat} {o : Oper} (ho : ops[i]? = some o) : ∀ c, o.op ≠ .defer c := by
  intro c hc
  unfold noDefer at h
  rw [Array.all_eq_true] at h
  obtain ⟨hi, rfl⟩ := Array.getElem?_eq_some_iff.1 ho
  have := h i hi
  rw [hc] at this
  cases this
theorem any_in {Q : Exit → Act → World → Prop} (hd : noDefer ops = true) (hQ : ¬ LetsOut Q) : ∀ (fuel : Nat) (listed : Array Bool) (a : Act) (w : World), wpAny P .any ops Q fuel listed a w → wpAnyIn (Fence.wide.inRound l) n P .any ops Q fuel listed a w
  | 0, _, _, _, h => h
  | fuel + 1, listed, a, w, h => by
    refine ⟨h.1, fun i hi => ?_⟩
    have hi' := h.2 i hi
    unfold wpOp at hi'
    unfold wpOpIn
    cases ho : ops[i]? with
    | none => rw [ho] at hi'; exact any_in hd hQ fuel _ a w hi'
    | some o =>
      rw [ho] at hi'
      simp only at hi' ⊢
      split
      · rename_i hw
        rw [if_pos hw] at hi'
        rcases hi' with hi' | hi'
        · exact op_in (noDefer_at hd ho) (Oper.wp_mono (fun a w => any_in hd hQ fuel _ a w) hi')
        · exact absurd hi'.2 hQ
      · rename_i hw
        rw [if_neg hw] at hi'
        exact ⟨fun _ _ => trivial, any_in hd hQ fuel _ _ _ hi'⟩
theorem then_noOut (Q : Act → World → Prop) : ¬ LetsOut (Exit.then Q (fun _ _ _ => False)) := fun ⟨_, _, h⟩ => h

theorem wpIn_region_seg {id : Nat} {a : Act} {w : World} {R : Exit → Act → World → Prop} (segs : List (List Nat × Nat)) (last tail : List Nat) (k : Nat) (hm : P.follows .mixedOrders = true)
    (hp : (noDefer ops && (Region.noSelect ops && tailOk ops k && planOk ops k segs last tail (Array.replicate ops.size false) && tail.all (fun i => decide (k ≤ i) && decide (i < ops.size)) && decide ((segs.map fun s => s.1.length + 1).sum + last.length + tail.length = ops.size))) = true)
    (h : ∀ Q : Act → World → Prop, (∀ a w, R .normal a w → Q a w) → ∀ w', Below w.heap.size w w' → segRun P ops Q segs last tail a w') : (Code.region id ops true).wpIn (Fence.wide.inRound l) n P R a w := by
  simp only [Bool.and_eq_true, decide_eq_true_eq] at hp
  obtain ⟨hd, ⟨⟨⟨hs, ht⟩, hp⟩, hk⟩, he⟩ := hp
  have hk' : ∀ i ∈ tail, k ≤ i ∧ i < ops.size := fun i hi => by simpa using List.all_eq_true.1 hk i hi
  refine Code.wpIn_mono (Q := Exit.then (fun a w => R .normal a w) (fun _ _ _ => False)) (fun e a w hq => by cases e <;> first | exact hq | exact hq.elim) ?_
  refine wpIn_region_any hm (any_in hd (then_noOut _) _ _ _ _ (wpAny_of_G (S := Cls w.drew) (k := k) _ _ _ _ ?_))
  have key := seg_any hs ht segs last tail _ a w.drew Closed.start hp hk' (h _ (fun _ _ h => h) _ (Below.refl _ _).drew)
  rw [he] at key
  exact key
theorem wpIn_region_treeC {id : Nat} {a : Act} {w : World} {R : Exit → Act → World → Prop} (p : Plan) (k : Nat) (hm : P.follows .mixedOrders = true)
    (hp : (noDefer ops && (Region.noSelect ops && tailOk ops k && treeOk ops k p ops.size (Array.replicate ops.size false))) = true)
    (h : ∀ Q : Act → World → Prop, (∀ a w, R .normal a w → Q a w) → ∀ w', Below w.heap.size w w' → ∃ C : World → Prop, C w' ∧ treeRunC P ops Q C p a w') : (Code.region id ops true).wpIn (Fence.wide.inRound l) n P R a w := by
  simp only [Bool.and_eq_true] at hp
  obtain ⟨hd, ⟨hs, ht⟩, hp⟩ := hp
  refine Code.wpIn_mono (Q := Exit.then (fun a w => R .normal a w) (fun _ _ _ => False)) (fun e a w hq => by cases e <;> first | exact hq | exact hq.elim) ?_
  obtain ⟨C, hC, hrun⟩ := h _ (fun _ _ h => h) w.drew (Below.refl _ _).drew
  refine wpIn_region_any hm (any_in hd (then_noOut _) _ _ _ _ (wpAny_of_G (S := C) (k := k) _ _ _ _ ?_))
  exact tree_anyC hs ht p _ _ a w.drew Closed.start hC hp hrun
theorem wpIn_region_treeB {id : Nat} {a : Act} {w : World} {R : Exit → Act → World → Prop} (p : Plan) (k : Nat) (hm : P.follows .mixedOrders = true)
    (hp : (noDefer ops && (Region.noSelect ops && tailOk ops k && treeOk ops k p ops.size (Array.replicate ops.size false))) = true)
    (h : ∀ Q : Act → World → Prop, (∀ a w, R .normal a w → Q a w) → ∀ w', Below w.heap.size w w' → treeRunB P ops Q w' p a w') : (Code.region id ops true).wpIn (Fence.wide.inRound l) n P R a w := by
  simp only [Bool.and_eq_true] at hp
  obtain ⟨hd, ⟨hs, ht⟩, hp⟩ := hp
  refine Code.wpIn_mono (Q := Exit.then (fun a w => R .normal a w) (fun _ _ _ => False)) (fun e a w hq => by cases e <;> first | exact hq | exact hq.elim) ?_
  refine wpIn_region_any hm (any_in hd (then_noOut _) _ _ _ _ (wpAny_of_G (S := Cls w.drew) (k := k) _ _ _ _ ?_))
  exact tree_anyB hs ht p _ _ a w.drew Closed.start (Cls.refl _) hp (h _ (fun _ _ h => h) _ (Below.refl _ _).drew)
end
end Go.Proofs.Ytplbaijdnpfdgaa
