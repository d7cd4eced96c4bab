/- The line backwards: plain laws. No program here. -/
import Derived.Test.YtbddaemekgflmaaPlain3
namespace Go.Proofs.Ytbddaemekgflmaa
/-- A table that is turned around. -/
theorem tab_mirror {G G' : Part} {n : Nat} (h : ∀ f p t b a, f < p → p < t → t ≤ n → G' (n - t) (n - p) (n - f) b a = G f p t a b) (m : Nat) : ∀ f, f + m ≤ n → (tab G' m (n - (f + m))).1 = (tab G m f).1 := by
  induction m using Nat.strongRecOn with
  | _ m ih =>
    intro f hf
    rcases Nat.lt_or_ge m 2 with hm | hm
    · rw [tab_eq, tab_eq]
      have : m - 1 = 0 := by omega
      rw [this]; rfl
    · have key : ∀ q, f < q → q < f + m → tabG G' m (n - (f + m)) (n - q) = tabG G m f q := by
        intro q h1 h2
        have e1 := ih (f + m - q) (by omega) q (by omega)
        have e2 := ih (q - f) (by omega) f (by omega)
        unfold tabG
        rw [show n - q - (n - (f + m)) = f + m - q by omega, show n - (f + m) + m - (n - q) = q - f by omega]
        rw [show n - (q + (f + m - q)) = n - (f + m) by omega] at e1
        rw [show n - (f + (q - f)) = n - q by omega] at e2
        rw [e1, e2, show n - (f + m) + m = n - f by omega]
        exact h f q (f + m) _ _ h1 h2 hf
      have le1 : (tab G' m (n - (f + m))).1 ≤ (tab G m f).1 := by
        rw [tab_eq, tab_eq]
        obtain ⟨h1, h2, h3⟩ := (argmin_pt (tabG G m f) f (m - 1)).2 (by omega)
        rw [h3, ← key _ h1 (by omega)]
        exact argmin_le _ _ _ _ (by omega) (by omega)
      have le2 : (tab G m f).1 ≤ (tab G' m (n - (f + m))).1 := by
        rw [tab_eq, tab_eq]
        obtain ⟨h1, h2, h3⟩ := (argmin_pt (tabG G' m (n - (f + m))) (n - (f + m)) (m - 1)).2 (by omega)
        rw [h3]
        have e := key (n - (argmin (tabG G' m (n - (f + m))) (n - (f + m)) (m - 1)).2) (by omega) (by omega)
        rw [show n - (n - (argmin (tabG G' m (n - (f + m))) (n - (f + m)) (m - 1)).2) = (argmin (tabG G' m (n - (f + m))) (n - (f + m)) (m - 1)).2 by omega] at e
        rw [e]
        exact argmin_le _ _ _ _ (by omega) (by omega)
      exact Int.le_antisymm le1 le2

theorem oddsOf_self (d : DLine) (f : Nat) : oddsOf d f f = 0 := by simp [oddsOf, sumI]
theorem oddsOf_back (d : DLine) (f t : Nat) (h : f ≤ t) (ht : t < d.odds.length) : oddsOf d f (t + 1) = oddsOf d f t + d.odds[t] := by
  unfold oddsOf
  rw [show t + 1 - f = (t - f) + 1 by omega, List.take_succ_eq_append_getElem (by simp; omega), sumI_snoc]
  simp [show f + (t - f) = t by omega]
theorem oddsOf_front (d : DLine) (f t : Nat) (h : f < t) (ht : t ≤ d.odds.length) : oddsOf d f t = d.odds[f] + oddsOf d (f + 1) t := by
  unfold oddsOf
  rw [List.drop_eq_getElem_cons (by omega), show t - f = (t - (f + 1)) + 1 by omega, List.take_succ_cons]
  rfl
theorem oddsOf_mirror {d D : DLine} (hl : D.odds.length = d.odds.length) (h : ∀ i (hi : i < d.odds.length), D.odds[i]? = some (d.odds[d.odds.length - 1 - i]'(by omega))) :
    ∀ m f, f + m ≤ d.odds.length → oddsOf D (d.odds.length - (f + m)) (d.odds.length - f) = oddsOf d f (f + m)
  | 0, f, _ => by rw [Nat.add_zero, oddsOf_self, oddsOf_self]
  | m + 1, f, hf => by
    have ih := oddsOf_mirror hl h m f (by omega)
    show oddsOf D (d.odds.length - (f + m + 1)) (d.odds.length - f) = oddsOf d f (f + m + 1)
    rw [oddsOf_back d f (f + m) (by omega) (by omega), ← ih, oddsOf_front D (d.odds.length - (f + m + 1)) _ (by omega) (by omega)]
    have e := h (d.odds.length - (f + m + 1)) (by omega)
    rw [List.getElem?_eq_getElem (by omega)] at e
    have e := Option.some.inj e
    rw [e]
    simp only [show d.odds.length - 1 - (d.odds.length - (f + m + 1)) = f + m by omega, show d.odds.length - (f + m + 1) + 1 = d.odds.length - (f + m) by omega]
    omega

/-- D is d, turned around. -/
structure Mirror (d D : DLine) : Prop where
  lp : D.pts.length = d.pts.length
  lo : D.odds.length = d.odds.length
  pts : ∀ i, i < d.pts.length → D.pts[i]? = d.pts[d.pts.length - 1 - i]?
  odds : ∀ i, i < d.odds.length → D.odds[i]? = d.odds[d.odds.length - 1 - i]?
theorem Mirror.cost {d D : DLine} (h : Mirror d D) (hv : valid d = true) (q : Nat) (hq : q ≤ d.odds.length) : costAt D (d.odds.length - q) = costAt d q := by
  have h2 := (valid_spec hv).2.1
  unfold costAt
  rw [h.pts _ (by omega), show d.pts.length - 1 - (d.odds.length - q) = q by omega]
theorem Mirror.valid {d D : DLine} (h : Mirror d D) (hv : valid d = true) : valid D = true := by
  unfold Go.Proofs.Ytbddaemekgflmaa.valid at hv ⊢
  simp only [Bool.and_eq_true, decide_eq_true_eq, Bool.not_eq_true', List.any_eq_false] at hv ⊢
  obtain ⟨⟨⟨h1, h2⟩, h3⟩, h4⟩ := hv
  refine ⟨⟨⟨by rw [h.lo]; exact h1, fun x hx => ?_⟩, by rw [h.lp, h.lo]; exact h3⟩, fun x hx => ?_⟩
  · obtain ⟨i, hi, rfl⟩ := List.mem_iff_getElem.1 hx
    have e := h.odds i (by rw [← h.lo]; exact hi)
    rw [List.getElem?_eq_getElem hi] at e
    exact h2 _ (List.mem_of_getElem? e.symm)
  · obtain ⟨i, hi, rfl⟩ := List.mem_iff_getElem.1 hx
    have e := h.pts i (by rw [← h.lp]; exact hi)
    rw [List.getElem?_eq_getElem hi] at e
    exact h4 _ (List.mem_of_getElem? e.symm)
theorem Mirror.oddsOf {d D : DLine} (h : Mirror d D) (f t : Nat) (hf : f ≤ t) (ht : t ≤ d.odds.length) : oddsOf D (d.odds.length - t) (d.odds.length - f) = oddsOf d f t := by
  have := oddsOf_mirror h.lo (fun i hi => by rw [h.odds i hi, List.getElem?_eq_getElem (by omega)]) (t - f) f (by omega)
  rw [show f + (t - f) = t by omega] at this
  exact this
theorem mirror_wt {c c' : Nat → Int} {n : Nat} (h : ∀ q, q ≤ n → c' (n - q) = c q) (f t : Nat) (hf : f ≤ t) (ht : t ≤ n) : wt c' (t - f) (n - t) = wt c (t - f) f := by
  have := tab_mirror (G := wF c) (G' := wF c') (n := n) (fun f p t b a h1 h2 h3 => by
    unfold wF
    rw [h p (by omega)]
    omega) (t - f) f (by omega)
  rw [show f + (t - f) = t by omega] at this
  exact this
theorem Mirror.worst {d D : DLine} (h : Mirror d D) (hv : Go.Proofs.Ytbddaemekgflmaa.valid d = true) (f t : Nat) (hf : f ≤ t) (ht : t ≤ d.odds.length) : worstN D (d.odds.length - t) (d.odds.length - f) = worstN d f t := by
  rw [worst_wt, worst_wt, show d.odds.length - f - (d.odds.length - t) = t - f by omega]
  exact mirror_wt (fun q hq => h.cost hv q hq) f t hf ht
theorem Mirror.avg {d D : DLine} (h : Mirror d D) (hv : Go.Proofs.Ytbddaemekgflmaa.valid d = true) (f t : Nat) (hf : f ≤ t) (ht : t ≤ d.odds.length) : avgN D (d.odds.length - t) (d.odds.length - f) = avgN d f t := by
  unfold avgN
  have := tab_mirror (G := sumP d) (G' := sumP D) (n := d.odds.length) (fun f p t b a h1 h2 h3 => by
    unfold sumP
    rw [h.cost hv p (by omega), h.oddsOf f t (by omega) h3]
    omega) (t - f) f (by omega)
  rw [show f + (t - f) = t by omega] at this
  rw [show d.odds.length - f - (d.odds.length - t) = t - f by omega]
  exact this
end Go.Proofs.Ytbddaemekgflmaa
