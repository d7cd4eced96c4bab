/- HoursSwaps: the plain laws. No program here. -/
import Derived.Test.YtokendenofbnhaaPlain9
namespace Go.Proofs.Ytokendenofbnhaa
/-- In a roster of the least cost no two should exchange their hours. -/
theorem swap_least {r : Ros} (h : ROk r) (hs : someR r = true) {l : List Int} (hc : costL r.strs l = (bestR stepsI r).1) {res : (Int × Int) × Int} (hr : SwapIs r l res) : res = ((0, 0), 3) := by
  rcases hr with ⟨a, b, _, _, _, hb, _⟩ | ⟨h1, _⟩
  · simp only [swapB, Bool.and_eq_true, decide_eq_true_eq] at hb
    have := (least_real h hs).2.2 _ hb.1
    omega
  · exact h1
/-- Two that should: a new roster that costs less. -/
theorem swap_less {r : Ros} {l : List Int} (hl : newB r l = true) {res : (Int × Int) × Int} (hr : SwapIs r l res) :
    res = ((0, 0), 3) ∨ ∃ a b : Nat, a < b ∧ b < l.length ∧ res = (((a : Int), (b : Int)), 0) ∧ newB r (exch l a b) = true ∧ costL r.strs (exch l a b) < costL r.strs l ∧ isStreet r (a : Int) = true ∧ isStreet r (b : Int) = true := by
  have hlen := goodL_length _ _ _ hl
  rcases hr with ⟨a, b, hab, hbl, rfl, hb, _⟩ | ⟨h1, _⟩
  · simp only [swapB, Bool.and_eq_true, decide_eq_true_eq] at hb
    exact .inr ⟨a, b, hab, hbl, rfl, hb.1, hb.2, by unfold isStreet; rw [inR_iff]; omega, by unfold isStreet; rw [inR_iff]; omega⟩
  · exact .inl h1
theorem cut_later {p q : Prop} (h1 : p → q) (h2 : p) : q := h1 h2
end Go.Proofs.Ytokendenofbnhaa
