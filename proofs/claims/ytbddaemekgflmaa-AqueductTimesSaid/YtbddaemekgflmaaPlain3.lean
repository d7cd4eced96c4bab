/- The least cost at the worst: plain laws. No program here. -/
import Derived.Test.YtbddaemekgflmaaPlain
namespace Go.Proofs.Ytbddaemekgflmaa
def wF (c : Nat → Int) : Part := fun _ p _ b a => c p + max b a
def wt (c : Nat → Int) (m f : Nat) : Int := (tab (wF c) m f).1
theorem worst_wt (d : DLine) (f t : Nat) : worstN d f t = wt (costAt d) (t - f) f := rfl
theorem wt_small (c : Nat → Int) (m f : Nat) (h : m < 2) : wt c m f = 0 := by
  unfold wt
  rw [tab_eq]
  have : m - 1 = 0 := by omega
  rw [this]; rfl
theorem wt_le (c : Nat → Int) (m f q : Nat) (h1 : f < q) (h2 : q < f + m) : wt c m f ≤ c q + max (wt c (q - f) f) (wt c (f + m - q) q) := by
  unfold wt
  rw [tab_eq]
  exact argmin_le (tabG (wF c) m f) f (m - 1) q h1 (by omega)
theorem wt_at (c : Nat → Int) (m f : Nat) (h : 2 ≤ m) : ∃ q, f < q ∧ q < f + m ∧ wt c m f = c q + max (wt c (q - f) f) (wt c (f + m - q) q) := by
  obtain ⟨h1, h2, h3⟩ := (argmin_pt (tabG (wF c) m f) f (m - 1)).2 (by omega)
  refine ⟨_, h1, by omega, ?_⟩
  show (tab (wF c) m f).1 = _
  rw [tab_eq, h3]
  rfl
/-- Dearer points: it is not less. -/
theorem wt_mono {c c' : Nat → Int} (m : Nat) : ∀ f, (∀ q, f < q → q < f + m → c q ≤ c' q) → wt c m f ≤ wt c' m f := by
  induction m using Nat.strongRecOn with
  | _ m ih =>
    intro f h
    rcases Nat.lt_or_ge m 2 with hm | hm
    · rw [wt_small c m f hm, wt_small c' m f hm]; exact Int.le_refl _
    · obtain ⟨q, h1, h2, h3⟩ := wt_at c' m f hm
      have a1 := wt_le c m f q h1 h2
      have a2 := ih (q - f) (by omega) f (fun r hr hr' => h r hr (by omega))
      have a3 := ih (f + m - q) (by omega) q (fun r hr hr' => h r (by omega) (by omega))
      have a4 := h q h1 h2
      omega
theorem wt_congr {c c' : Nat → Int} (m f : Nat) (h : ∀ q, f < q → q < f + m → c q = c' q) : wt c m f = wt c' m f :=
  Int.le_antisymm (wt_mono m f fun q h1 h2 => Int.le_of_eq (h q h1 h2)) (wt_mono m f fun q h1 h2 => Int.le_of_eq (h q h1 h2).symm)
/-- One point dearer by k: at most k more. -/
theorem wt_point {c c' : Nat → Int} {p : Nat} {k : Int} (hk : 0 ≤ k) (hp : c p ≤ c' p + k) (ho : ∀ q, q ≠ p → c q = c' q) (m : Nat) : ∀ f, wt c m f ≤ wt c' m f + k := by
  induction m using Nat.strongRecOn with
  | _ m ih =>
    intro f
    rcases Nat.lt_or_ge m 2 with hm | hm
    · rw [wt_small c m f hm, wt_small c' m f hm]; omega
    · obtain ⟨q, h1, h2, h3⟩ := wt_at c' m f hm
      have a1 := wt_le c m f q h1 h2
      by_cases hq : q = p
      · subst hq
        have a2 := wt_congr (c := c) (c' := c') (q - f) f (fun r hr hr' => ho r (by omega))
        have a3 := wt_congr (c := c) (c' := c') (f + m - q) q (fun r hr hr' => ho r (by omega))
        rw [a2, a3] at a1
        omega
      · have a2 := ih (q - f) (by omega) f
        have a3 := ih (f + m - q) (by omega) q
        have a4 := ho q hq
        omega
end Go.Proofs.Ytbddaemekgflmaa
