/- Fewer stretches: plain laws. No program here. -/
import Derived.Test.YtbddaemekgflmaaPlain3
namespace Go.Proofs.Ytbddaemekgflmaa
theorem wt_nn {c : Nat → Int} (hc : ∀ q, 0 ≤ c q) (m : Nat) : ∀ f, 0 ≤ wt c m f := by
  induction m using Nat.strongRecOn with
  | _ m ih =>
    intro f
    rcases Nat.lt_or_ge m 2 with hm | hm
    · rw [wt_small c m f hm]; exact Int.le_refl _
    · obtain ⟨q, h1, h2, h3⟩ := wt_at c m f hm
      have a1 := ih (q - f) (by omega) f
      have a2 := hc q
      omega
/-- Fewer stretches: not more. -/
theorem wt_sub {c : Nat → Int} (hc : ∀ q, 0 ≤ c q) (m : Nat) : ∀ f x y, f ≤ x → x ≤ y → y ≤ f + m → wt c (y - x) x ≤ wt c m f := by
  induction m using Nat.strongRecOn with
  | _ m ih =>
    intro f x y h1 h2 h3
    rcases Nat.lt_or_ge (y - x) 2 with hs | hs
    · rw [wt_small c _ x hs]; exact wt_nn hc m f
    · obtain ⟨q, q1, q2, q3⟩ := wt_at c m f (by omega)
      have hq := hc q
      rcases Nat.lt_or_ge x q with hx | hx
      · rcases Nat.lt_or_ge q y with hy | hy
        · have b1 := wt_le c (y - x) x q hx (by omega)
          have b2 := ih (q - f) (by omega) f x q h1 (by omega) (by omega)
          have b3 := ih (f + m - q) (by omega) q q y (Nat.le_refl _) (by omega) (by omega)
          rw [show x + (y - x) - q = y - q by omega] at b1
          omega
        · have b2 := ih (q - f) (by omega) f x y h1 h2 (by omega)
          omega
      · have b3 := ih (f + m - q) (by omega) q x y hx h2 (by omega)
        omega
/-- What the points between cost together, and the least of them. -/
def sumC (c : Nat → Int) (f : Nat) : Nat → Int
  | 0 => 0
  | k + 1 => sumC c f k + c (f + k + 1)
def minC (c : Nat → Int) (f : Nat) : Nat → Int
  | 0 => 20
  | k + 1 => min (minC c f k) (c (f + k + 1))
theorem sumC_nn {c : Nat → Int} (hc : ∀ q, 0 ≤ c q) (f : Nat) : ∀ k, 0 ≤ sumC c f k
  | 0 => Int.le_refl _
  | k + 1 => by have := sumC_nn hc f k; have := hc (f + k + 1); simp only [sumC]; omega
theorem wt_sum {c : Nat → Int} (hc : ∀ q, 0 ≤ c q) (f : Nat) : ∀ k, wt c (k + 1) f ≤ sumC c f k
  | 0 => by rw [wt_small c _ f (by omega)]; exact Int.le_refl _
  | k + 1 => by
    have h1 := wt_le c (k + 1 + 1) f (f + k + 1) (by omega) (by omega)
    rw [show f + (k + 1 + 1) - (f + k + 1) = 1 by omega, wt_small c 1 _ (by omega), show f + k + 1 - f = k + 1 by omega] at h1
    have ih := wt_sum hc f k
    have := wt_nn hc (k + 1) f
    simp only [sumC]
    omega
theorem minC_le (c : Nat → Int) (f : Nat) : ∀ k q, f < q → q ≤ f + k → minC c f k ≤ c q
  | 0, q, h1, h2 => by omega
  | k + 1, q, h1, h2 => by
    simp only [minC]
    by_cases hq : q = f + k + 1
    · subst hq; omega
    · have := minC_le c f k q h1 (by omega); omega
theorem wt_min {c : Nat → Int} (hc : ∀ q, 0 ≤ c q) (f k : Nat) (hk : 0 < k) : minC c f k ≤ wt c (k + 1) f := by
  obtain ⟨q, q1, q2, q3⟩ := wt_at c (k + 1) f (by omega)
  have := minC_le c f k q q1 (by omega)
  have a1 := wt_nn hc (q - f) f
  omega
theorem wt_two (c : Nat → Int) (f : Nat) : wt c 2 f = sumC c f 1 := by
  obtain ⟨q, q1, q2, q3⟩ := wt_at c 2 f (by omega)
  obtain rfl : q = f + 1 := by omega
  rw [wt_small c (f + 1 - f) f (by omega), wt_small c (f + 2 - (f + 1)) (f + 1) (by omega)] at q3
  rw [q3]
  simp [sumC]
theorem bd_sum {c : Nat → Int} (hc : ∀ q, 0 ≤ c q ∧ c q ≤ 20) (f : Nat) : ∀ k, 0 ≤ sumC c f k ∧ sumC c f k ≤ 20 * k
  | 0 => by simp [sumC]
  | k + 1 => by have := bd_sum hc f k; have := hc (f + k + 1); simp only [sumC]; omega
theorem bd_min {c : Nat → Int} (hc : ∀ q, 0 ≤ c q ∧ c q ≤ 20) (f : Nat) : ∀ k, 0 ≤ minC c f k ∧ minC c f k ≤ 20
  | 0 => by simp [minC]
  | k + 1 => by have := bd_min hc f k; have := hc (f + k + 1); simp only [minC]; omega
/-- The first point at which it is parted best. -/
theorem next_spec (d : DLine) (f t : Nat) (h : f + 2 ≤ t) : f < nextN d f t ∧ nextN d f t < t ∧ worstN d f t = costAt d (nextN d f t) + max (worstN d f (nextN d f t)) (worstN d (nextN d f t) t) := by
  unfold nextN
  rw [tab_eq]
  obtain ⟨h1, h2, h3⟩ := (argmin_pt (tabG (worstP d) (t - f) f) f (t - f - 1)).2 (by omega)
  refine ⟨h1, by omega, ?_⟩
  show (tab (worstP d) (t - f) f).1 = _
  rw [tab_eq, h3]
  unfold tabG worstN
  rw [show f + (t - f) = t by omega]
  rfl
end Go.Proofs.Ytbddaemekgflmaa
