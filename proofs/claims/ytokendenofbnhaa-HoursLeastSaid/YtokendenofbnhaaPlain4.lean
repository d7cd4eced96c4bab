/- What a list of hours costs, piece by piece; what is given; which two should exchange their hours. No program here. -/
import Derived.Test.YtokendenofbnhaaPlain3
namespace Go.Proofs.Ytokendenofbnhaa
/-- Each street has one of its hours. -/
structure InL (ss : List Str) (l : List Int) : Prop where
  len : l.length = ss.length
  inn : ∀ k (h1 : k < ss.length) (h2 : k < l.length), ss[k].frm ≤ l[k] ∧ l[k] ≤ ss[k].to
theorem InL.of_good : ∀ {ss : List Str} {left l : List Int}, goodL ss left l = true → InL ss l
  | [], _, [], _ => ⟨rfl, fun k h => absurd h (by simp)⟩
  | [], _, _ :: _, h => by simp [goodL] at h
  | _ :: _, _, [], h => by simp [goodL] at h
  | s :: ss, left, h :: hs, hg => by
    simp only [goodL, Bool.and_eq_true, inR_iff] at hg
    have ih := InL.of_good hg.2
    refine ⟨by simp [ih.len], fun k h1 h2 => ?_⟩
    cases k with
    | zero => exact hg.1.1
    | succ k => exact ih.inn k (by simpa using h1) (by simpa using h2)
theorem InL.of_new {r : Ros} {l : List Int} (h : newB r l = true) : InL r.strs l := InL.of_good h
theorem sumW_snoc (w : Str → Int → Int) : ∀ (ss : List Str) (l : List Int) (k : Nat) (h1 : k < ss.length) (h2 : k < l.length), sumW w (ss.take (k + 1)) (l.take (k + 1)) = sumW w (ss.take k) (l.take k) + w ss[k] l[k]
  | [], _, _, h, _ => absurd h (by simp)
  | _ :: _, [], _, _, h => absurd h (by simp)
  | s :: ss, h :: l, 0, _, _ => by simp [sumW]
  | s :: ss, h :: l, k + 1, h1, h2 => by
    have := sumW_snoc w ss l k (by simpa using h1) (by simpa using h2)
    simp only [List.take_succ_cons, sumW, List.getElem_cons_succ]
    omega
theorem sumW_all (w : Str → Int → Int) {ss : List Str} {l : List Int} (h : l.length = ss.length) : sumW w (ss.take ss.length) (l.take ss.length) = sumW w ss l := by
  rw [List.take_length, ← h, List.take_length]
theorem sumW_bd {w : Str → Int → Int} {M : Int} (hM : 0 ≤ M) : ∀ (ss : List Str) (l : List Int), (∀ k (h1 : k < ss.length) (h2 : k < l.length), 0 ≤ w ss[k] l[k] ∧ w ss[k] l[k] ≤ M) → 0 ≤ sumW w ss l ∧ sumW w ss l ≤ M * ss.length
  | [], l, _ => by simp [sumW]
  | s :: ss, [], _ => by simp [sumW]; exact Int.mul_nonneg hM (by omega)
  | s :: ss, h :: l, hb => by
    have ih := sumW_bd hM ss l (fun k h1 h2 => hb (k + 1) (by simpa using h1) (by simpa using h2))
    have h0 := hb 0 (by simp) (by simp)
    simp only [List.getElem_cons_zero] at h0
    simp only [sumW, List.length_cons]
    have : M * ((ss.length + 1 : Nat) : Int) = M * ss.length + M := by rw [Int.natCast_add, Int.mul_add]; simp
    omega
def givenE (r : Ros) (l : List Int) : Int := if valid r then (if newB r l then 0 else 1) else 80
theorem givenE_zero {r : Ros} {l : List Int} : givenE r l = 0 ↔ valid r = true ∧ newB r l = true := by
  unfold givenE
  cases valid r <;> cases newB r l <;> simp
/-- A list in which two have exchanged their hours. -/
def exch (l : List Int) (a b : Nat) : List Int := (l.set a (l.getD b 0)).set b (l.getD a 0)
theorem exch_len (l : List Int) (a b : Nat) : (exch l a b).length = l.length := by simp [exch]
def swapB (r : Ros) (l : List Int) (a b : Nat) : Bool := newB r (exch l a b) && decide (costL r.strs (exch l a b) < costL r.strs l)
/-- The first two that should exchange their hours. -/
def SwapIs (r : Ros) (l : List Int) (res : (Int × Int) × Int) : Prop :=
  (∃ a b : Nat, a < b ∧ b < l.length ∧ res = (((a : Int), (b : Int)), 0) ∧ swapB r l a b = true ∧ ∀ a' b', a' < b' → b' < l.length → (a' < a ∨ a' = a ∧ b' < b) → swapB r l a' b' = false) ∨
  (res = ((0, 0), 3) ∧ ∀ a' b', a' < b' → b' < l.length → swapB r l a' b' = false)
theorem SwapIs.uniq {r : Ros} {l : List Int} {x y : (Int × Int) × Int} (h : SwapIs r l x) (k : SwapIs r l y) : x = y := by
  rcases h with ⟨a, b, h1, h2, rfl, h3, h4⟩ | ⟨rfl, h4⟩ <;> rcases k with ⟨a', b', k1, k2, rfl, k3, k4⟩ | ⟨rfl, k4⟩
  · have e1 : ¬ (a' < a ∨ a' = a ∧ b' < b) := fun e => by rw [h4 a' b' k1 k2 e] at k3; cases k3
    have e2 : ¬ (a < a' ∨ a = a' ∧ b < b') := fun e => by rw [k4 a b h1 h2 e] at h3; cases h3
    have : a = a' := by omega
    have : b = b' := by omega
    subst_vars; rfl
  · rw [k4 a b h1 h2] at h3; cases h3
  · rw [h4 a' b' k1 k2] at k3; cases k3
  · rfl
end Go.Proofs.Ytokendenofbnhaa
