/- What a call owns while a range over a function of its own runs. No function here; no conditions. -/
import Derived.Test.YtplbaijdnpfdgaaRange
import Derived.Test.YtplbaijdnpfdgaaSt2
namespace Go.Proofs.Ytplbaijdnpfdgaa
open Go.RowKit Go.Sort

/-- These blocks lie as they lay. -/
structure KpK (Ks : List Nat) (W W' : World) : Prop where
  size : W.heap.size ≤ W'.heap.size
  same : ∀ k ∈ Ks, W'.heap[k]? = W.heap[k]?
theorem KpK.refl (Ks : List Nat) (W : World) : KpK Ks W W := ⟨Nat.le_refl _, fun _ _ => rfl⟩
theorem KpK.trans {Ks : List Nat} {A B C : World} (h : KpK Ks A B) (k : KpK Ks B C) : KpK Ks A C := ⟨Nat.le_trans h.size k.size, fun i hi => (k.same i hi).trans (h.same i hi)⟩
theorem KpK.putObj {Ks : List Nat} {n : Nat} (hK : ∀ k ∈ Ks, k < n) (W : World) (l : Nat) : ∀ (o o' : Obj), n ≤ l → W.heap[l]? = some o → o.isCells = false → o.isWalk = false → KpK Ks W (W.putObj l o') := fun _ _ hl _ _ _ =>
  ⟨by simp, fun k hk => World.putObj_heap_other (by have := hK k hk; omega)⟩
theorem KpK.below {Ks : List Nat} {W W' : World} (h : Below W.heap.size W W') (hK : ∀ k ∈ Ks, k < W.heap.size) : KpK Ks W W' := ⟨h.size, fun k hk => h.block k (hK k hk)⟩
theorem KpK.grown {Ks : List Nat} {W W' : World} {row : Option Nat} (h : W.grownBy W' row) (hK : ∀ k ∈ Ks, k < W.heap.size) (hr : ∀ k ∈ Ks, row ≠ some k) : KpK Ks W W' := ⟨h.size, fun k hk => h.block k (hK k hk) (fun e => hr k hk e.symm)⟩
theorem KpK.setCell {Ks : List Nat} {W : World} {a : Addr} {v : Value} (hK : ∀ k ∈ Ks, k ≠ a.block) : KpK Ks W (W.setCell a v) := ⟨by simp [World.setCell], fun k hk => Below.heap_setCell _ _ _ k (hK k hk)⟩
theorem ko_below {W W' : World} (h : Below W.heap.size W W') : KeepsOthers W W' := ⟨h.size, fun k _ hk _ => (h.block k (Array.getElem?_eq_some_iff.1 hk).1).trans hk⟩

/-- A thing of the call's own that is cells. -/
def Item.cel : Item → Prop
  | .any _ p => ∀ o, p o → o.isCells = true
  | _ => True
theorem Item.ok.cells {base : Nat} {w : World} {x : Item} (h : x.ok base w) (hc : x.cel) {b : Nat} (hb : x.blk = some b) {o : Obj} (ho : w.heap[b]? = some o) : o.isCells = true := by
  cases x with
  | box b' cs =>
    obtain ⟨_, T, h2⟩ := h
    injection hb with hb
    subst hb
    rw [ho] at h2
    cases h2
    rfl
  | own e size v m xs =>
    rcases h.2 with ⟨rfl, _⟩ | ⟨g, cap, cur, rfl, _, hh, _⟩
    · cases hb
    · cases hb
      rw [ho] at hh
      cases hh
      rfl
  | any b' p =>
    obtain ⟨_, o', h2, h3⟩ := h
    injection hb with hb
    subst hb
    rw [ho] at h2
    cases h2
    exact hc _ h3
section
variable {w0 w w' : World} {n : Nat} {L : List Item}
theorem St.other (h : St w0 w n L) {row : Option Nat} {B : Nat} (hg : w.grownBy w' row) (hr : ∀ r, row = some r → B ≤ r ∧ ∃ o : Obj, w.heap[r]? = some o ∧ o.isCells = false) (hB : w0.heap.size ≤ B) (hL : ∀ x ∈ L, x.cel) : St w0 w' w'.heap.size L := by
  refine ⟨rfl, h.bel.trans ⟨hg.os, hg.tape, hg.output, hg.size, fun k hk => hg.block k (by have := h.bel.size; omega) (fun e => ?_)⟩, fun x hx => ?_, h.apart⟩
  · have := (hr k e.symm).1
    omega
  · have hok := h.ok x hx
    refine hok.same fun b hb => hg.block b (hok.lt hb).2 (fun e => ?_)
    obtain ⟨_, o, ho, hc⟩ := hr b e.symm
    rw [hok.cells (hL x hx) hb ho] at hc
    cases hc
/-- Such a thing may be said between two rounds. -/
theorem St.ownFrom {β : Type} {w0 : World} {B : Nat} (L : β → List Item) (hB : w0.heap.size ≤ B) (hL : ∀ s, ∀ x ∈ L s, x.cel) : OwnFrom B (fun (s : β) W => St w0 W W.heap.size (L s)) :=
  fun s _ _ _ hs hg hr => hs.other hg hr hB (hL s)
theorem St.ownFrom' {β : Type} {w0 : World} {B m : Nat} (L : β → List Item) (hB : w0.heap.size ≤ B) (hL : ∀ s, ∀ x ∈ L s, x.cel) : OwnFrom B (fun (s : β) W => St w0 W W.heap.size (L s) ∧ m ≤ W.heap.size) :=
  fun s _ _ _ hs hg hr => ⟨hs.1.other hg hr hB (hL s), Nat.le_trans hs.2 hg.size⟩
/-- Behind a step in which one of its things turned, what is no cells lies as it lay. -/
theorem St.ko (h : St w0 w n L) (i : Nat) {x : Item} (hi : L[i]? = some x) (hc : x.cel) (hg : w.grownBy w' x.blk) : KeepsOthers w w' :=
  KeepsOthers.of_grownBy hg fun _ _ hj ho => (h.ok x (List.mem_of_getElem? hi)).cells hc hj ho
theorem St.apart' (h : St w0 w n L) (i j : Nat) {x y : Item} (hi : L[i]? = some x) (hj : L[j]? = some y) (hij : i ≠ j) {b : Nat} (hb : y.blk = some b) : x.blk ≠ some b := fun e =>
  hij (nodup_fm Item.blk L i j x y b h.apart hi hj e hb)
/-- What was at the start, behind the marks of the loop that has ended. -/
theorem St.putD (h : St w0 w n L) {D : Nat} {o : Obj} (hD : w0.heap.size ≤ D) (hk : w.heap[D]? = some o) (ho : o.isCells = false) (o' : Obj) (hL : ∀ x ∈ L, x.cel) : St w0 (w.putObj D o') (w.putObj D o').heap.size L :=
  h.other (B := D) (grownBy_putObj' w D o') (fun r e => by cases e; exact ⟨Nat.le_refl _, _, hk, ho⟩) hD hL
end

/-- A call's walk, in the form that lets it range over a function. -/
theorem calls_of_marks {P : Program} {f : FuncId} {fn : Func} {c : Code} {args : Array Value} {w : World} {R : Ending → World → Prop}
    (hf : P.funcs[f]? = some fn) (hb : fn.body = some c)
    (h : c.wp P (bodyPostM Fence.wide 5 P fn R) { tmps := args ++ Array.replicate (fn.ntmps - args.size) undef, defers := [] } w) : Calls P f args w R :=
  callsIn_wide.1 (callsIn_of_wp_marks (n := 5) hf hb trivial (wpIn_wide.2 h) rfl)
end Go.Proofs.Ytplbaijdnpfdgaa
