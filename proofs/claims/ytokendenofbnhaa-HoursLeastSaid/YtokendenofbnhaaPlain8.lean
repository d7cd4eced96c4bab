/- HoursStay: the plain law. No program here. -/
import Derived.Test.YtokendenofbnhaaPlain7
namespace Go.Proofs.Ytokendenofbnhaa
/-- The least cost, and 9. -/
def minTo (ss : List Str) : Nat → Int
  | 0 => 9
  | k + 1 => min (minTo ss k) (ss.getD k default).cost
theorem minTo_bd {ss : List Str} (h : ∀ s ∈ ss, StrOk s) : ∀ k, k ≤ ss.length → 0 ≤ minTo ss k ∧ minTo ss k ≤ 9
  | 0, _ => by simp [minTo]
  | k + 1, hk => by
    have ih := minTo_bd h k (by omega)
    have e : ss.getD k default = ss[k] := by simp [List.getD_eq_getElem?_getD, List.getElem?_eq_getElem (show k < ss.length by omega)]
    have := (h ss[k] (List.getElem_mem _)).cost0
    simp only [minTo, e]
    omega
theorem minTo_le (ss : List Str) : ∀ k j (_ : j < k) (hj : j < ss.length), minTo ss k ≤ ss[j].cost
  | 0, j, h, _ => by omega
  | k + 1, j, h, hj => by
    simp only [minTo]
    rcases Nat.lt_succ_iff_lt_or_eq.1 h with h1 | rfl
    · have := minTo_le ss k j h1 hj
      omega
    · have e : ss.getD j default = ss[j] := by simp [List.getD_eq_getElem?_getD, List.getElem?_eq_getElem hj]
      rw [e]
      omega
theorem once_bd (s : Str) (h : Int) : 0 ≤ onceI s h ∧ onceI s h ≤ 1 := by
  have := moveI_nonneg s h
  unfold onceI; omega
theorem movedN_bd : ∀ (ss : List Str) (l : List Int), 0 ≤ movedN ss l ∧ movedN ss l ≤ ss.length := fun ss l => by
  have := sumW_bd (w := onceI) (M := 1) (by omega) ss l (fun k h1 h2 => once_bd _ _)
  unfold movedN; omega
theorem costL_ge : ∀ (ss : List Str) (l : List Int) (c : Int), 0 ≤ c → (∀ s ∈ ss, c ≤ s.cost ∧ 0 ≤ s.cost) → c * movedN ss l ≤ costL ss l
  | [], [], c, _, _ => by simp [movedN, costL, sumW]
  | [], _ :: _, c, _, _ => by simp [movedN, costL, sumW]
  | _ :: _, [], c, _, _ => by simp [movedN, costL, sumW]
  | s :: ss, h :: hs, c, h0, hc => by
    have ih := costL_ge ss hs c h0 (fun s' hs' => hc s' (by simp [hs']))
    have hs1 := hc s (by simp)
    have hone : c * onceI s h ≤ stepsI s h := by
      have hm := moveI_nonneg s h
      by_cases hz : moveI s h = 0
      · have e : min (1 : Int) 0 = 0 := by decide
        simp [onceI, stepsI, hz, e]
      · have : onceI s h = 1 := by unfold onceI; omega
        rw [this, Int.mul_one]
        unfold stepsI
        have := Int.mul_le_mul (show (1 : Int) ≤ moveI s h by omega) (Int.le_refl s.cost) hs1.2 (by omega)
        omega
    unfold movedN costL at ih ⊢
    simp only [sumW]
    rw [Int.mul_add]
    omega
/-- Nobody is moved. -/
theorem still {ss : List Str} {l : List Int} (h : nearL 0 ss l) : movedN ss l = 0 ∧ costL ss l = 0 := by
  have hz : ∀ k (h1 : k < ss.length) (h2 : k < l.length), moveI ss[k] l[k] = 0 := fun k h1 h2 => by
    have := h k h1 h2
    have := moveI_nonneg ss[k] l[k]
    omega
  constructor
  · have := sumW_bd (w := onceI) (M := 0) (by omega) ss l (fun k h1 h2 => by unfold onceI; rw [hz k h1 h2]; decide)
    unfold movedN; omega
  · have := sumW_bd (w := stepsI) (M := 0) (by omega) ss l (fun k h1 h2 => by simp [stepsI, hz k h1 h2])
    unfold costL; omega
theorem near_of_moved : ∀ (ss : List Str) (l : List Int), movedN ss l = 0 → nearL 0 ss l
  | [], _, _ => fun k h1 _ => by simp at h1
  | _ :: _, [], _ => fun k _ h2 => by simp at h2
  | s :: ss, h :: hs, hm => by
    have h1 := once_bd s h
    have h2 := movedN_bd ss hs
    have he : onceI s h + movedN ss hs = 0 := hm
    have ih := near_of_moved ss hs (by omega)
    intro k hk1 hk2
    cases k with
    | zero => show moveI s h ≤ 0; have e : onceI s h = 0 := by omega
              unfold onceI at e; omega
    | succ k => exact ih k (by simpa using hk1) (by simpa using hk2)
theorem least_pos {r : Ros} (h : ROk r) (hs : someR r = true) : 0 ≤ (bestR stepsI r).1 ∧ (bestR stepsI r).1 ≤ 432 := by
  obtain ⟨h1, h2, _⟩ := least_real h hs
  have := cost_bd h h1
  omega
theorem fewest_bd {r : Ros} (h : ROk r) (hs : someR r = true) : 0 ≤ (bestR onceI r).1 ∧ (bestR onceI r).1 ≤ r.strs.length := by
  obtain ⟨⟨l, _, h2⟩, _⟩ := fewest_real h hs
  have := movedN_bd r.strs l
  omega
theorem far_zero {r : Ros} (h : ROk r) (hs : someR r = true) : (farN r : Int) = 0 ↔ (bestR onceI r).1 = 0 := by
  obtain ⟨⟨l, hl, hn⟩, hf⟩ := far_real h hs
  obtain ⟨⟨m, hm, hmn⟩, hw⟩ := fewest_real h hs
  have hb := fewest_bd h hs
  constructor
  · intro hz
    rw [hz] at hn
    have := hw l hl
    rw [(still hn).1] at this
    omega
  · intro hz
    have := hf m 0 hm (near_of_moved _ _ (by omega))
    omega
theorem stay_zero {r : Ros} (h : ROk r) {l : List Int} (hl : newB r l = true) (hn : nearL 0 r.strs l) : (bestR stepsI r).1 = 0 ∧ farN r = 0 ∧ (bestR onceI r).1 = 0 := by
  have hs := some_of h hl
  have h1 := (least_real h hs).2.2 l hl
  have h2 := (far_real h hs).2 l 0 hl hn
  have h3 := (fewest_real h hs).2 l hl
  have h4 := still hn
  have := least_pos h hs
  have := fewest_bd h hs
  omega
theorem least_cost {r : Ros} (h : ROk r) (hs : someR r = true) : minTo r.strs r.strs.length * (bestR onceI r).1 ≤ (bestR stepsI r).1 := by
  obtain ⟨h1, h2, _⟩ := least_real h hs
  have h3 := (fewest_real h hs).2 _ h1
  have hc := minTo_bd h.strs r.strs.length (Nat.le_refl _)
  have h4 := costL_ge r.strs (rosterP stepsI r.strs (pad r.room)) (minTo r.strs r.strs.length) hc.1 (fun s hs' => by
    obtain ⟨k, hk, rfl⟩ := List.getElem_of_mem hs'
    exact ⟨minTo_le r.strs _ k hk hk, (h.strs _ hs').cost0⟩)
  have h5 := Int.mul_le_mul_of_nonneg_left h3 hc.1
  omega
end Go.Proofs.Ytokendenofbnhaa
