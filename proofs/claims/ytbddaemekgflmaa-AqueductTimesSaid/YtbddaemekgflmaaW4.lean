/- Walk of reckon: the table of all stretches, for the measure at worst and for the sum. -/
import Derived.Test.YtbddaemekgflmaaW3
namespace Go.Proofs.Ytbddaemekgflmaa
open Go.RowKit Go.Sort

def TabAt (w : World) (T : Nat) (E : Nat → Nat → Int × Nat) : Prop := ∀ i j, i < 8 → j < 8 → w.cell? ⟨T, i * 16 + j * 2, none⟩ = some (I (E i j).1) ∧ w.cell? ⟨T, i * 16 + j * 2 + 1, none⟩ = some (I (E i j).2)
theorem TabAt.congr {w : World} {T : Nat} {E E' : Nat → Nat → Int × Nat} (h : TabAt w T E) (he : ∀ i j, i < 8 → j < 8 → E i j = E' i j) : TabAt w T E' :=
  fun i j hi hj => by rw [← he i j hi hj]; exact h i j hi hj
def RetTab (w : World) (E : Nat → Nat → Int × Nat) (e : Ending) (w' : World) : Prop := ∃ T, e = .returned (.pointer (some ⟨T, 0, none⟩)) ∧ TabAt w' T E ∧ Below w.heap.size w w'
def entN (part : Part) (n many frm : Nat) (cur : Int × Nat) (i j : Nat) : Int × Nat :=
  if ¬ (i < j ∧ j ≤ n) then (0, 0) else if j - i < many ∨ (j - i = many ∧ i < frm) then tab part (j - i) i else if j - i = many ∧ i = frm then cur else (0, 0)
def entF (part : Part) (n i j : Nat) : Int × Nat := if i < j ∧ j ≤ n then tab part (j - i) i else (0, 0)
theorem zero_tab : Try.zeroCells100 = Array.replicate 128 (I 0) := by kernel_rfl

theorem nilA (x y : Value) (w : World) : (nilAhead 227 80 (.agg #[x, y]) "steening/aqueduct.part").run Try.prog w = .ok (some false) w := by kernel_rfl
theorem metA (x y : Value) (w : World) : (method 227 80 (.agg #[x, y]) "steening/aqueduct.part").run Try.prog w = .ok (103, .agg #[x, y]) w := by kernel_rfl

theorem nilB (x y : Value) (w : World) : (nilAhead 227 81 (.agg #[x, y]) "steening/aqueduct.part").run Try.prog w = .ok (some false) w := by kernel_rfl
theorem metB (x y : Value) (w : World) : (method 227 81 (.agg #[x, y]) "steening/aqueduct.part").run Try.prog w = .ok (104, .agg #[x, y]) w := by kernel_rfl

/-- What holds between two steps of 'reckon'. -/
structure RS (w wr : World) (pv ov : Value) (E : Nat → Nat → Int × Nat) : Prop where
  below : Below w.heap.size w wr
  c0 : wr.cell? ⟨w.heap.size, 0, none⟩ = some pv
  c1 : wr.cell? ⟨w.heap.size, 1, none⟩ = some ov
  tab : TabAt wr (w.heap.size + 1) E
  fr : ∀ o, wr.frozen? ⟨w.heap.size + 1, o, none⟩ = false
theorem RS.size {w wr : World} {pv ov : Value} {E : Nat → Nat → Int × Nat} (h : RS w wr pv ov E) : w.heap.size + 1 < wr.heap.size :=
  World.block_lt_of_cell? wr _ (h.tab 0 0 (by omega) (by omega)).1
theorem RS.ext {w wr wr' : World} {pv ov : Value} {E : Nat → Nat → Int × Nat} (h : RS w wr pv ov E) (hb : Below wr.heap.size wr wr') : RS w wr' pv ov E := by
  have hs := h.size
  obtain ⟨b1, b2⟩ := bcell hb
  exact ⟨bto h.below hb, by rw [b1 _ _ (by omega)]; exact h.c0, by rw [b1 _ _ (by omega)]; exact h.c1,
    fun i j hi hj => by rw [b1 _ _ (by omega), b1 _ _ (by omega)]; exact h.tab i j hi hj, fun o => by rw [b2 _ _ (by omega)]; exact h.fr o⟩
theorem RS.congr {w wr : World} {pv ov : Value} {E E' : Nat → Nat → Int × Nat} (h : RS w wr pv ov E) (he : ∀ i j, i < 8 → j < 8 → E i j = E' i j) : RS w wr pv ov E' :=
  ⟨h.below, h.c0, h.c1, h.tab.congr he, h.fr⟩

theorem RS.store {w wr : World} {pv ov : Value} {E : Nat → Nat → Int × Nat} (h : RS w wr pv ov E) (i j : Nat) (hi : i < 8) (hj : j < 8) (x : Int) (y : Nat) :
    RS w ((wr.setCell ⟨w.heap.size + 1, i * 16 + j * 2, none⟩ (I x)).setCell ⟨w.heap.size + 1, i * 16 + j * 2 + 1, none⟩ (I y)) pv ov (fun a b => if a = i ∧ b = j then (x, y) else E a b) := by
  have hs := h.size
  refine ⟨(h.below.setCell (p := ⟨w.heap.size + 1, _, none⟩) (by simp) _).setCell (p := ⟨w.heap.size + 1, _, none⟩) (by simp) _, ?_, ?_, ?_, ?_⟩
  · rw [World.cell?_setCell_other _ _ _ _ (by simp), World.cell?_setCell_other _ _ _ _ (by simp)]; exact h.c0
  · rw [World.cell?_setCell_other _ _ _ _ (by simp), World.cell?_setCell_other _ _ _ _ (by simp)]; exact h.c1
  · intro a b ha hb
    obtain ⟨q1, q2⟩ := h.tab a b ha hb
    by_cases hab : a = i ∧ b = j
    · obtain ⟨rfl, rfl⟩ := hab
      dsimp only
      rw [if_pos ⟨rfl, rfl⟩]
      refine ⟨?_, ?_⟩
      · rw [World.cell?_setCell_other _ _ _ _ (by simp)]
        exact World.cell?_setCell_same _ _ _ q1
      · refine World.cell?_setCell_same _ _ _ (u := I (E a b).2) ?_
        rw [World.cell?_setCell_other _ _ _ _ (by simp)]
        exact q2
    · dsimp only
      rw [if_neg hab]
      have hne : a * 16 + b * 2 ≠ i * 16 + j * 2 := by omega
      refine ⟨?_, ?_⟩
      · rw [World.cell?_setCell_other _ _ _ _ (by simp only [ne_eq, Addr.mk.injEq, true_and, and_true]; omega), World.cell?_setCell_other _ _ _ _ (by simp only [ne_eq, Addr.mk.injEq, true_and, and_true]; omega)]; exact q1
      · rw [World.cell?_setCell_other _ _ _ _ (by simp only [ne_eq, Addr.mk.injEq, true_and, and_true]; omega), World.cell?_setCell_other _ _ _ _ (by simp only [ne_eq, Addr.mk.injEq, true_and, and_true]; omega)]; exact q2
  · intro o
    rw [World.frozen?_setCell, World.frozen?_setCell]; exact h.fr o

/-- A new point's worth in the entry: the table's next state. -/
theorem entN_cur {part : Part} {n many frm : Nat} {cur : Int × Nat} {x : Int} {y : Nat} (h : frm + many ≤ n) (hm : 1 ≤ many) :
    ∀ a b, (if a = frm ∧ b = frm + many then (x, (y : Nat)) else entN part n many frm cur a b) = entN part n many frm (x, y) a b := by
  intro a b
  by_cases h0 : a = frm ∧ b = frm + many
  · obtain ⟨rfl, rfl⟩ := h0
    rw [if_pos ⟨rfl, rfl⟩]
    unfold entN
    rw [if_neg (by omega), if_neg (by omega), if_pos (by omega)]
  · rw [if_neg h0]
    unfold entN
    split
    · rfl
    · split
      · rfl
      · rw [if_neg (by omega), if_neg (by omega)]
theorem entN_next {part : Part} {n many frm : Nat} :
    ∀ a b, entN part n many frm (tab part many frm) a b = entN part n many (frm + 1) (0, 0) a b := by
  intro a b
  unfold entN
  split
  · rfl
  · rename_i h1
    split
    · rename_i h2
      rw [if_pos (by omega)]
    · rename_i h2
      split
      · rename_i h3
        rw [if_pos (by omega), h3.1, h3.2]
      · rename_i h3
        rw [if_neg (by omega)]
        split
        · rename_i h4
          rfl
        · rfl
theorem entN_row {part : Part} {n many frm : Nat} (h : n < frm + many) : ∀ a b, entN part n many frm (0, 0) a b = entN part n (many + 1) 0 (0, 0) a b := by
  intro a b
  unfold entN
  split
  · rfl
  · rename_i h1
    by_cases h2 : b - a < many ∨ (b - a = many ∧ a < frm)
    · rw [if_pos h2, if_pos (by omega)]
    · rw [if_neg h2, if_neg (by omega), if_neg (by omega)]
      split <;> rfl
theorem entN_end {part : Part} {n many : Nat} (h : n < many) : ∀ a b, entN part n many 0 (0, 0) a b = entF part n a b := by
  intro a b
  unfold entN entF
  by_cases h1 : a < b ∧ b ≤ n
  · rw [if_neg (by simpa using h1), if_pos (by omega), if_pos h1]
  · rw [if_pos h1, if_neg h1]
theorem entN_start {part : Part} {n : Nat} : ∀ a b, (0, 0) = entN part n 2 0 (0, 0) a b := by
  intro a b
  unfold entN
  split
  · rfl
  · rename_i h1
    split
    · rename_i h2
      have : b - a = 1 := by omega
      rw [this]; rfl
    · split <;> rfl

end Go.Proofs.Ytbddaemekgflmaa
