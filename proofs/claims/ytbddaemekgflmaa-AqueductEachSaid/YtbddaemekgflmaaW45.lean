/- Each truth: plain laws over what the functions return. -/
import Derived.Test.YtbddaemekgflmaaW43
import Derived.Test.YtbddaemekgflmaaW33
namespace Go.Proofs.Ytbddaemekgflmaa
theorem clashR_calm {d : DLine} (h : valid d = true) (hc : calm d.pts) : clashR d = ((0, 0), 3) := by
  unfold clashR
  rw [if_pos h, (clash_none d).2 hc]
theorem clashR_wild {d : DLine} (h : valid d = true) (hc : ¬ calm d.pts) : ∃ a b : Nat, clashR d = (((a : Int), (b : Int)), 0) ∧ a < b ∧ b < d.pts.length ∧ (d.pts.getD a default).hi < (d.pts.getD b default).lo := by
  cases hx : clashO d with
  | none => exact absurd ((clash_none d).1 hx) hc
  | some x =>
    obtain ⟨a, b⟩ := x
    obtain ⟨h1, h2, h3⟩ := clash_some d a b hx
    refine ⟨a, b, ?_, h1, h2, h3⟩
    unfold clashR
    rw [if_pos h, hx]
theorem getD_pt {d : DLine} (i : Nat) (hi : i < d.pts.length) : d.pts.getD i default = d.pts[i] := by simp [List.getD, List.getElem?_eq_getElem hi]
theorem getD_int {l : List Int} (i : Nat) (hi : i < l.length) : l.getD i 0 = l[i] := by simp [List.getD, List.getElem?_eq_getElem hi]
/-- A flow lies within the point's own bounds. -/
theorem flow_own {d : DLine} (h : valid d = true) (hc : calm d.pts) (i : Nat) (hi : i < d.pts.length) : insideB (flowAt d i) (d.pts[i].lo, d.pts[i].hi) = true := by
  rw [inside_iff]
  have h1 := calm_flow h hc i hi
  have h2 := ((loSuf_le d.pts i (by omega) (loSuf d.pts i)).1 (Int.le_refl _)).2 i (Nat.le_refl _) hi
  have h3 := ((hiPre_all d.pts (i + 1) (by omega) (hiPre d.pts (i + 1))).1 (Int.le_refl _)).2 i (by omega)
  rw [getD_pt i hi] at h2 h3
  exact ⟨h2, h1, h3⟩
theorem flow_truth {d : DLine} (h : valid d = true) {l : List Int} (ht : truthB d l = true) (i : Nat) (hi : i < d.pts.length) (hl : i < l.length) : (flowAt d i).1 ≤ l[i] ∧ l[i] ≤ (flowAt d i).2 := by
  have := truth_in h ht i hi
  rw [getD_int i hl] at this
  exact this
theorem flow_down {d : DLine} (i : Nat) (hi : i + 1 < d.pts.length) : (flowAt d (i + 1)).1 ≤ (flowAt d i).1 ∧ (flowAt d (i + 1)).2 ≤ (flowAt d i).2 :=
  ⟨loSuf_down i (i + 1) (by omega) hi, hiPre_mono (i + 1) (i + 2) (by omega) (by omega)⟩
theorem loss_truth {d : DLine} (h : valid d = true) {l : List Int} (ht : truthB d l = true) (f t : Nat) (hft : f ≤ t) (hi : t < d.pts.length) (hlf : f < l.length) (hlt : t < l.length) : (lossP d f t).1 ≤ l[f] - l[t] ∧ l[f] - l[t] ≤ (lossP d f t).2 := by
  have h1 := truth_in h ht f (by omega)
  have h2 := truth_in h ht t hi
  have h3 := truth_down ht t f hft hi
  rw [getD_int f hlf] at h1 h3
  rw [getD_int t hlt] at h2 h3
  unfold lossP
  split
  · rename_i e; subst e; simp
  · constructor
    · simp only; omega
    · simp only; omega
theorem truth_len {d : DLine} {l : List Int} (ht : truthB d l = true) : l.length = d.pts.length := ((truth_spec d l).1 ht).1
theorem wild_no {d : DLine} (hc : ¬ calm d.pts) (l : List Int) : truthB d l = false := by
  cases hx : truthB d l
  · rfl
  · exact absurd (truth_calm hx) hc
end Go.Proofs.Ytbddaemekgflmaa
