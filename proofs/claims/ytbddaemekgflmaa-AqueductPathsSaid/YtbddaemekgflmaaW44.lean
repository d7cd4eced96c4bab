/- What a path is good for: plain laws over what the functions return. -/
import Derived.Test.YtbddaemekgflmaaW31
import Derived.Test.YtbddaemekgflmaaW28
import Derived.Test.YtbddaemekgflmaaPlain3
namespace Go.Proofs.Ytbddaemekgflmaa

theorem worst_next (d : DLine) (f t : Nat) (h : f + 1 < t) : worstN d f t = costAt d (nextN d f t) + max (worstN d f (nextN d f t)) (worstN d (nextN d f t) t) := by
  have hb := nextN_bd (d := d) h
  have h1 : (tab (worstP d) (t - f) f).1 = tabG (worstP d) (t - f) f (nextN d f t) := by
    unfold nextN
    rw [tab_eq]
    exact ((argmin_pt (tabG (worstP d) (t - f) f) f (t - f - 1)).2 (by omega)).2.2
  show (tab (worstP d) (t - f) f).1 = _
  rw [h1, tabG_worst d f t _ hb.1 hb.2]
theorem worst_one (d : DLine) (f t : Nat) (h : t ≤ f + 1) : worstN d f t = 0 := by
  rw [worst_wt]
  exact wt_small _ _ _ (by omega)
theorem pathL_one (d : DLine) (s : Int) (k f t : Nat) (h : t ≤ f + 1) : pathL d s k f t = [] := by
  cases k with
  | zero => rfl
  | succ k => simp [pathL, show ¬ f + 1 < t by omega]
theorem path_most (d : DLine) (s : Int) (m : Nat) : ∀ f t, t - f = m → sumCost d (pathL d s (t - f) f t) ≤ worstN d f t := by
  induction m using Nat.strongRecOn with
  | _ m ih =>
    intro f t hm
    by_cases h : f + 1 < t
    · have hb := nextN_bd (d := d) h
      rw [pathL_step d s f t h, worst_next d f t h]
      simp only [sumCost, Int.toNat_natCast]
      have i1 := ih (nextN d f t - f) (by omega) f (nextN d f t) rfl
      have i2 := ih (t - nextN d f t) (by omega) (nextN d f t) t rfl
      split <;> omega
    · rw [pathL_one d s _ f t (by omega), worst_one d f t (by omega)]
      exact Int.le_refl _
theorem path_just (d : DLine) (m : Nat) : ∀ f t, t - f = m → f < t → ∃ s : Nat, f ≤ s ∧ s < t ∧ sumCost d (pathL d s (t - f) f t) = worstN d f t := by
  induction m using Nat.strongRecOn with
  | _ m ih =>
    intro f t hm hft
    by_cases h : f + 1 < t
    · have hb := nextN_bd (d := d) h
      obtain ⟨s1, a1, a2, a3⟩ := ih (nextN d f t - f) (by omega) f (nextN d f t) rfl hb.1
      obtain ⟨s2, b1, b2, b3⟩ := ih (t - nextN d f t) (by omega) (nextN d f t) t rfl hb.2
      by_cases hm : worstN d (nextN d f t) t ≤ worstN d f (nextN d f t)
      · refine ⟨s1, a1, by omega, ?_⟩
        rw [pathL_step d s1 f t h, worst_next d f t h, if_pos (by omega)]
        simp only [sumCost, Int.toNat_natCast]
        omega
      · refine ⟨s2, by omega, b2, ?_⟩
        rw [pathL_step d s2 f t h, worst_next d f t h, if_neg (by omega)]
        simp only [sumCost, Int.toNat_natCast]
        omega
    · refine ⟨f, Nat.le_refl _, hft, ?_⟩
      rw [pathL_one d _ _ f t (by omega), worst_one d f t (by omega)]
      rfl
theorem path_nodup (d : DLine) (s : Int) (m : Nat) : ∀ f t, t - f = m → (pathL d s (t - f) f t).Nodup := by
  induction m using Nat.strongRecOn with
  | _ m ih =>
    intro f t hm
    by_cases h : f + 1 < t
    · have hb := nextN_bd (d := d) h
      rw [pathL_step d s f t h, List.nodup_cons]
      split
      · refine ⟨fun hin => ?_, ih _ (by omega) f _ rfl⟩
        have := pathL_in d s _ _ _ _ hin
        omega
      · refine ⟨fun hin => ?_, ih _ (by omega) _ t rfl⟩
        have := pathL_in d s _ _ _ _ hin
        omega
    · rw [pathL_one d s _ f t (by omega)]; exact List.nodup_nil
theorem path_parts (d : DLine) (s m : Nat) : ∀ f t, t - f = m → f ≤ s → s < t → (s = f ∨ (s : Int) ∈ pathL d s (t - f) f t) ∧ (s + 1 = t ∨ ((s : Int) + 1) ∈ pathL d s (t - f) f t) := by
  induction m using Nat.strongRecOn with
  | _ m ih =>
    intro f t hm h1 h2
    by_cases h : f + 1 < t
    · have hb := nextN_bd (d := d) h
      rw [pathL_step d s f t h]
      by_cases hs : (s : Int) < nextN d f t
      · rw [if_pos hs]
        obtain ⟨i1, i2⟩ := ih (nextN d f t - f) (by omega) f (nextN d f t) rfl h1 (by omega)
        refine ⟨i1.imp id fun h => List.mem_cons_of_mem _ h, .inr ?_⟩
        rcases i2 with i2 | i2
        · have : ((s : Int) + 1) = (nextN d f t : Int) := by omega
          rw [this]; exact List.mem_cons_self
        · exact List.mem_cons_of_mem _ i2
      · rw [if_neg hs]
        obtain ⟨i1, i2⟩ := ih (t - nextN d f t) (by omega) (nextN d f t) t rfl (by omega) h2
        refine ⟨.inr ?_, i2.imp id fun h => List.mem_cons_of_mem _ h⟩
        rcases i1 with i1 | i1
        · rw [← i1]; exact List.mem_cons_self
        · exact List.mem_cons_of_mem _ i1
    · exact ⟨.inl (by omega), .inl (by omega)⟩

def pc (d : DLine) (s : Nat) : Int := sumCost d (pathL d s d.odds.length 0 d.odds.length)
def fnd (d : DLine) (k : Nat) : Bool := (List.range k).any fun j => decide (pc d j = worstN d 0 d.odds.length)
theorem fnd_succ (d : DLine) (k : Nat) : fnd d (k + 1) = (fnd d k || decide (pc d k = worstN d 0 d.odds.length)) := by simp [fnd, List.range_succ]
theorem fnd_all (d : DLine) (h : 0 < d.odds.length) : fnd d d.odds.length = true := by
  obtain ⟨s, _, h2, h3⟩ := path_just d d.odds.length 0 d.odds.length rfl h
  unfold fnd
  rw [List.any_eq_true]
  exact ⟨s, List.mem_range.2 h2, decide_eq_true h3⟩
theorem pc_le (d : DLine) (s : Nat) : pc d s ≤ worstN d 0 d.odds.length := path_most d s d.odds.length 0 d.odds.length rfl
theorem pathR_yes {d : DLine} (h : valid d = true) (s : Nat) (hs : s < d.odds.length) : pathR d s = (pathL d s d.odds.length 0 d.odds.length, 0) := by
  have hi : isSt d s = true := by simp [isSt, inR]; omega
  unfold pathR
  rw [hi, if_pos (by simp [askE, h])]
theorem paidR_yes {d : DLine} (h : valid d = true) (s : Nat) (hs : s < d.odds.length) : paidR d s = (pc d s, 0) := by
  unfold paidR
  rw [pathR_yes h s hs]
  simp [pc]
theorem nextR_yes {d : DLine} (h : valid d = true) (hn : 1 < d.odds.length) : nextR d 0 d.odds.length = ((nextN d 0 d.odds.length : Int), 0) := by
  have hi : someOf d 0 d.odds.length = true := by simp [someOf]; omega
  unfold nextR
  rw [hi, if_pos (by simp [askE, h]), if_neg (by omega)]
  simp
theorem nextR_one {d : DLine} (h : valid d = true) (hn : d.odds.length = 1) : nextR d 0 d.odds.length = (0, 3) := by
  have hi : someOf d 0 d.odds.length = true := by simp [someOf]; omega
  unfold nextR
  rw [hi, if_pos (by simp [askE, h]), if_pos (by omega)]
end Go.Proofs.Ytbddaemekgflmaa
