/- HoursGive: the plain laws. No program here. -/
import Derived.Test.YtokendenofbnhaaPlain12
namespace Go.Proofs.Ytokendenofbnhaa
theorem roomier_ok {r : Ros} (h : ROk r) {k : Nat} (hk : k < r.room.length) (h6 : r.room[k] ≠ 6) : ROk (roomier r k 1) := by
  refine ⟨by simpa [roomier] using h.rl, fun x hx => ?_, h.sl, fun s hs => by simpa [roomier] using h.so s hs⟩
  simp only [roomier] at hx
  rcases List.mem_or_eq_of_mem_set hx with hx | rfl
  · exact h.rm x hx
  · rw [List.getD_eq_getElem?_getD, List.getElem?_eq_getElem hk]
    simp only [Option.getD_some]
    have := h.rm _ (List.getElem_mem hk)
    omega
theorem roomier_at {r : Ros} {k : Nat} (hk : k < r.room.length) (g : Int) (hg : 0 ≤ g) : at_ (roomier r k 1).room g = at_ r.room g + if g = (k : Int) then 1 else 0 := by
  unfold roomier
  simp only
  rw [at_set]
  by_cases e : g = (k : Int)
  · subst e
    rw [if_pos ⟨by simp, hk⟩, if_pos rfl]
    simp [at_]
  · rw [if_neg (fun e2 => e (by omega)), if_neg e]
    omega
/-- What room for one more is worth. -/
theorem give_said {r : Ros} (h : ROk r) {k : Nat} (hk : k < r.room.length) (h6 : r.room[k] ≠ 6) (hs : someR r = true) :
    someR (roomier r k 1) = true ∧ 0 ≤ (bestR stepsI (roomier r k 1)).1 ∧ (bestR stepsI (roomier r k 1)).1 ≤ (bestR stepsI r).1 ∧
      ∀ l, newB r l = true → costL r.strs l = (bestR stepsI r).1 → (bestR stepsI (roomier r k 1)).1 ≠ (bestR stepsI r).1 → (l.count (k : Int) : Int) = r.room[k] := by
  have ho := roomier_ok h hk h6
  obtain ⟨h1, h2, -⟩ := more_said h ho (roomier_le h k (by omega)) (WdL.refl r.strs) hs
  refine ⟨h1, (least_pos ho h1).1, h2, fun l hl hc hne => ?_⟩
  have hat : at_ r.room (k : Int) = r.room[k] := by simp [at_, List.getElem?_eq_getElem hk]
  have hle := ((new_iff h).1 hl).2 (k : Int) (by omega)
  rw [hat] at hle
  apply Classical.byContradiction
  intro hlt
  obtain ⟨j1, j2, -⟩ := least_real ho h1
  obtain ⟨l', hl'⟩ : ∃ x, rosterP stepsI (roomier r k 1).strs (pad (roomier r k 1).room) = x := ⟨_, rfl⟩
  rw [hl'] at j1 j2
  obtain ⟨hf, hcl⟩ := (new_iff ho).1 j1
  have hcl' : ∀ g : Int, 0 ≤ g → (l'.count g : Int) ≤ at_ r.room g + if g = (k : Int) then 1 else 0 := fun g hg => by
    rw [← roomier_at hk g hg]
    exact hcl g hg
  rw [roomier_strs] at hf j2
  have hmin := (least_real h hs).2.2
  have hm : at_ r.room (k : Int) < (l'.count (k : Int) : Int) := by
    apply Classical.byContradiction
    intro hn
    have := hmin l' ((new_iff h).2 ⟨hf, fun g hg => by
      have := hcl' g hg
      by_cases e : g = (k : Int)
      · subst e; omega
      · rw [if_neg e] at this; omega⟩)
    omega
  have hll := (fit_iff.1 hf).1
  have hl0 := (fit_iff.1 ((new_iff h).1 hl).1).1
  obtain ⟨m, q, e1, e2, e3⟩ := cross h (H := (k : Int)) (by omega) hl hf hcl' (by rw [hat]; omega) hm l.length l l' (k : Int) (by omega) rfl (by omega) (by omega) (fun i _ _ _ _ => .inl ⟨rfl, rfl⟩) (fun x => by omega) (fun x => by omega) rfl
  have := hmin m e1
  have := hmin q e2
  omega
end Go.Proofs.Ytokendenofbnhaa
