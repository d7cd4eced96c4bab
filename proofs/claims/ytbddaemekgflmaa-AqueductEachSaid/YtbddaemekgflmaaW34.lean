/- Walks of inside and In. -/
import Derived.Test.YtbddaemekgflmaaW18
namespace Go.Proofs.Ytbddaemekgflmaa
open Go.RowKit Go.Sort

def insideB (a b : Int × Int) : Bool := decide (b.1 ≤ a.1) && decide (a.1 ≤ a.2) && decide (a.2 ≤ b.2)
set_option maxHeartbeats 1000000 in
theorem inside_any (a0 a1 b0 b1 : Int) (w : World) : Calls Try.prog 46 #[.agg #[I a0, I a1], .agg #[I b0, I b1]] w fun e w' => e = .returned (.bool (insideB (a0, a1) (b0, b1))) ∧ Below w.heap.size w w' := by
  have hb0 : ∀ x y, Below w.heap.size w ((w.alloc x).alloc y) := fun x y => ((Below.refl _ _).alloc (Nat.le_refl _) _).alloc (by simp) _
  by_cases h1 : b0 ≤ a0
  · by_cases h2 : a0 ≤ a1
    · by_cases h3 : a1 ≤ b1
      · have HX := Lib.hid (show insideB (a0, a1) (b0, b1) = true by simp [insideB, h1, h2, h3])
        go_enter Try.func46, Try.ntmps46
        go_wp2_with fail
        go_ret
        exact ⟨by rw [HX.out]; rfl, hb0 _ _⟩
      · have HX := Lib.hid (show insideB (a0, a1) (b0, b1) = false by simp [insideB, h3])
        go_enter Try.func46, Try.ntmps46
        go_wp2_with fail
        go_ret
        exact ⟨by rw [HX.out]; first | rfl | (simp; omega), hb0 _ _⟩
    · have HX := Lib.hid (show insideB (a0, a1) (b0, b1) = false by simp [insideB, h2])
      go_enter Try.func46, Try.ntmps46
      go_wp2_with fail
      go_ret
      exact ⟨by rw [HX.out]; first | rfl | (simp; omega), hb0 _ _⟩
  · have HX := Lib.hid (show insideB (a0, a1) (b0, b1) = false by simp [insideB, h1])
    go_enter Try.func46, Try.ntmps46
    go_wp2_with fail
    go_ret
    exact ⟨by rw [HX.out]; first | rfl | (simp; omega), hb0 _ _⟩
end Go.Proofs.Ytbddaemekgflmaa
