/- A range over a function within a loop: the marks that each of them leaves among the deferred calls. No function here; no conditions. -/
import Derived.Test.YtplbaijdnpfdgaaRange2
namespace Go.Proofs.Ytplbaijdnpfdgaa
open Go.RowKit Go.Sort

/-- The mark that a loop leaves, and its block as a thing of the call's own. -/
def markD (D : Nat) : Deferred := { target := .collected D, args := #[] }
def markI (D : Nat) : Item := .any D (fun o => o = .deferred (some []))
section
variable {w0 w w' : World} {n : Nat} {L : List Item}
theorem St.other2 (h : St w0 w n L) {row : Option Nat} {B : Nat} (hg : w.grownBy w' row) (hr : ∀ r, row = some r → B ≤ r ∧ ∃ o : Obj, w.heap[r]? = some o ∧ o.isCells = false) (hB : w0.heap.size ≤ B) (hL : ∀ x ∈ L, x.cel ∨ ∀ b, x.blk = some b → b < B) : St w0 w' w'.heap.size L := by
  refine ⟨rfl, h.bel.trans ⟨hg.os, hg.tape, hg.output, hg.size, fun k hk => hg.block k (by have := h.bel.size; omega) (fun e => ?_)⟩, fun x hx => ?_, h.apart⟩
  · have := (hr k e.symm).1
    omega
  · have hok := h.ok x hx
    refine hok.same fun b hb => hg.block b (hok.lt hb).2 (fun e => ?_)
    obtain ⟨hBb, o, ho, hc⟩ := hr b e.symm
    rcases hL x hx with h' | h'
    · rw [hok.cells h' hb ho] at hc
      cases hc
    · have := h' b hb
      omega
theorem St.mark (h : St w0 w n L) {D : Nat} (hD : w0.heap.size ≤ D) (hk : w.heap[D]? = some (.deferred (some []))) (hne : ∀ x ∈ L, ∀ b, x.blk = some b → b ≠ D) : St w0 w n (markI D :: L) := by
  refine ⟨h.size, h.bel, fun x hx => ?_, ?_⟩
  · rcases List.mem_cons.1 hx with hx | hx
    · rw [hx]; exact ⟨hD, _, hk, rfl⟩
    · exact h.ok x hx
  · have e0 : (markI D).blk = some D := rfl
    rw [List.filterMap_cons, e0]
    refine List.nodup_cons.2 ⟨fun hm => ?_, h.apart⟩
    obtain ⟨x, hx, hb⟩ := List.mem_filterMap.1 hm
    exact hne x hx D hb rfl
/-- The marks are taken up, one behind the other; what is said in T stays. -/
theorem leaves_marks {F : Fence} {m : Nat} {P : Program} {fn : Func} {tmps : Array Value} {R : Ending → World → Prop} (F1 : List Item) (hF : ∀ x ∈ F1, x.cel) :
    ∀ (Ds : List Nat) (w : World), St w0 w w.heap.size (F1 ++ Ds.map markI) → (∀ w', St w0 w' w'.heap.size F1 → LeavesInM F m P fn tmps R [] .returning w') → LeavesInM F m P fn tmps R (Ds.map markD) .returning w
  | [], w, h, hR => hR w (by simpa using h)
  | D :: Ds, w, h, hR => by
    have hm : markI D ∈ F1 ++ (D :: Ds).map markI := List.mem_append_right _ (by simp)
    obtain ⟨hD, o, hk, rfl⟩ := h.ok _ hm
    refine ⟨by simp, .inl ⟨D, _, rfl, run_takeDeferred hk, ?_⟩⟩
    refine leaves_marks F1 hF Ds _ ?_ hR
    have h2 : St w0 w w.heap.size (markI D :: (F1 ++ Ds.map markI)) := h.perm (by
      rw [List.map_cons]
      exact List.perm_middle)
    have h3 := h2.apart
    have e0 : (markI D).blk = some D := rfl
    rw [List.filterMap_cons, e0] at h3
    have hnd := (List.nodup_cons.1 h3).1
    have hg := grownBy_putObj' w D (.deferred none)
    refine ⟨rfl, ?_, fun x hx => ?_, (List.nodup_cons.1 h3).2⟩
    · exact h.bel.trans ⟨hg.os, hg.tape, hg.output, hg.size, fun k hk' => hg.block k (by have := h.bel.size; omega) (fun e => by injection e with e; omega)⟩
    · have hok := h2.ok x (List.mem_cons_of_mem _ hx)
      refine hok.same fun b hb => hg.block b (hok.lt hb).2 (fun e => ?_)
      injection e with e
      subst e
      exact hnd (List.mem_filterMap.2 ⟨x, hx, hb⟩)
end
end Go.Proofs.Ytplbaijdnpfdgaa
