/- The line backwards: plain laws. No program here. -/
import Derived.Test.YtpolipcicfjkiaaK25
namespace Go.Proofs.Ytpolipcicfjkiaa
/-- A table that is turned around. -/
theorem tab_mirror {G G' : Part} {n : Nat} (h : ∀ f p t b a, f < p → p < t → t ≤ n → G' (n - t) (n - p) (n - f) b a = G f p t a b) (m : Nat) : ∀ f, f + m ≤ n → (tab G' m (n - (f + m))).1 = (tab G m f).1 := by
  induction m using Nat.strongRecOn with
  | _ m ih =>
    intro f hf
    rcases Nat.lt_or_ge m 2 with hm | hm
    · rw [tab_eq, tab_eq]
      have : m - 1 = 0 := by omega
      rw [this]; rfl
    · have key : ∀ q, f < q → q < f + m → tabG G' m (n - (f + m)) (n - q) = tabG G m f q := by
        intro q h1 h2
        have e1 := ih (f + m - q) (by omega) q (by omega)
        have e2 := ih (q - f) (by omega) f (by omega)
        unfold tabG
        rw [show n - q - (n - (f + m)) = f + m - q by omega, show n - (f + m) + m - (n - q) = q - f by omega]
        rw [show n - (q + (f + m - q)) = n - (f + m) by omega] at e1
        rw [show n - (f + (q - f)) = n - q by omega] at e2
        rw [e1, e2, show n - (f + m) + m = n - f by omega]
        exact h f q (f + m) _ _ h1 h2 hf
      have le1 : (tab G' m (n - (f + m))).1 ≤ (tab G m f).1 := by
        rw [tab_eq, tab_eq]
        obtain ⟨h1, h2, h3⟩ := (argmin_pt (tabG G m f) f (m - 1)).2 (by omega)
        rw [h3, ← key _ h1 (by omega)]
        exact argmin_le _ _ _ _ (by omega) (by omega)
      have le2 : (tab G m f).1 ≤ (tab G' m (n - (f + m))).1 := by
        rw [tab_eq, tab_eq]
        obtain ⟨h1, h2, h3⟩ := (argmin_pt (tabG G' m (n - (f + m))) (n - (f + m)) (m - 1)).2 (by omega)
        rw [h3]
        have e := key (n - (argmin (tabG G' m (n - (f + m))) (n - (f + m)) (m - 1)).2) (by omega) (by omega)
        rw [show n - (n - (argmin (tabG G' m (n - (f + m))) (n - (f + m)) (m - 1)).2) = (argmin (tabG G' m (n - (f + m))) (n - (f + m)) (m - 1)).2 by omega] at e
        rw [e]
        exact argmin_le _ _ _ _ (by omega) (by omega)
      exact Int.le_antisymm le1 le2

theorem oddsOf_self (d : DLine) (f : Nat) : oddsOf d f f = 0 := by simp [oddsOf, sumI]
theorem oddsOf_back (d : DLine) (f t : Nat) (h : f ≤ t) (ht : t < d.odds.length) : oddsOf d f (t + 1) = oddsOf d f t + d.odds[t] := by
  unfold oddsOf
  rw [show t + 1 - f = (t - f) + 1 by omega, List.take_succ_eq_append_getElem (by simp; omega), sumI_snoc]
  simp [show f + (t - f) = t by omega]
theorem oddsOf_front (d : DLine) (f t : Nat) (h : f < t) (ht : t ≤ d.odds.length) : oddsOf d f t = d.odds[f] + oddsOf d (f + 1) t := by
  unfold oddsOf
  rw [List.drop_eq_getElem_cons (by omega), show t - f = (t - (f + 1)) + 1 by omega, List.take_succ_cons]
  rfl
theorem oddsOf_mirror {d D : DLine} (hl : D.odds.length = d.odds.length) (h : ∀ i (hi : i < d.odds.length), D.odds[i]? = some (d.odds[d.odds.length - 1 - i]'(by omega))) :
    ∀ m f, f + m ≤ d.odds.length → oddsOf D (d.odds.length - (f + m)) (d.odds.length - f) = oddsOf d f (f + m)
  | 0, f, _ => by rw [Nat.add_zero, oddsOf_self, oddsOf_self]
  | m + 1, f, hf => by
    have ih := oddsOf_mirror hl h m f (by omega)
    show oddsOf D (d.odds.length - (f + m + 1)) (d.odds.length - f) = oddsOf d f (f + m + 1)
    rw [oddsOf_back d f (f + m) (by omega) (by omega), ← ih, oddsOf_front D (d.odds.length - (f + m + 1)) _ (by omega) (by omega)]
    have e := h (d.odds.length - (f + m + 1)) (by omega)
    rw [List.getElem?_eq_getElem (by omega)] at e
    have e := Option.some.inj e
    rw [e]
    simp only [show d.odds.length - 1 - (d.odds.length - (f + m + 1)) = f + m by omega, show d.odds.length - (f + m + 1) + 1 = d.odds.length - (f + m) by omega]
    omega

/-- D is d, turned around. -/
structure Mirror (d D : DLine) : Prop where
  lp : D.pts.length = d.pts.length
  lo : D.odds.length = d.odds.length
  pts : ∀ i, i < d.pts.length → D.pts[i]? = d.pts[d.pts.length - 1 - i]?
  odds : ∀ i, i < d.odds.length → D.odds[i]? = d.odds[d.odds.length - 1 - i]?
theorem Mirror.cost {d D : DLine} (h : Mirror d D) (hv : valid d = true) (q : Nat) (hq : q ≤ d.odds.length) : costAt D (d.odds.length - q) = costAt d q := by
  have h2 := (valid_spec hv).2.1
  unfold costAt
  rw [h.pts _ (by omega), show d.pts.length - 1 - (d.odds.length - q) = q by omega]
theorem Mirror.valid {d D : DLine} (h : Mirror d D) (hv : valid d = true) : valid D = true := by
  unfold Go.Proofs.Ytpolipcicfjkiaa.valid at hv ⊢
  simp only [Bool.and_eq_true, decide_eq_true_eq, Bool.not_eq_true', List.any_eq_false] at hv ⊢
  obtain ⟨⟨⟨h1, h2⟩, h3⟩, h4⟩ := hv
  refine ⟨⟨⟨by rw [h.lo]; exact h1, fun x hx => ?_⟩, by rw [h.lp, h.lo]; exact h3⟩, fun x hx => ?_⟩
  · obtain ⟨i, hi, rfl⟩ := List.mem_iff_getElem.1 hx
    have e := h.odds i (by rw [← h.lo]; exact hi)
    rw [List.getElem?_eq_getElem hi] at e
    exact h2 _ (List.mem_of_getElem? e.symm)
  · obtain ⟨i, hi, rfl⟩ := List.mem_iff_getElem.1 hx
    have e := h.pts i (by rw [← h.lp]; exact hi)
    rw [List.getElem?_eq_getElem hi] at e
    exact h4 _ (List.mem_of_getElem? e.symm)
theorem Mirror.oddsOf {d D : DLine} (h : Mirror d D) (f t : Nat) (hf : f ≤ t) (ht : t ≤ d.odds.length) : oddsOf D (d.odds.length - t) (d.odds.length - f) = oddsOf d f t := by
  have := oddsOf_mirror h.lo (fun i hi => by rw [h.odds i hi, List.getElem?_eq_getElem (by omega)]) (t - f) f (by omega)
  rw [show f + (t - f) = t by omega] at this
  exact this
theorem mirror_wt {c c' : Nat → Int} {n : Nat} (h : ∀ q, q ≤ n → c' (n - q) = c q) (f t : Nat) (hf : f ≤ t) (ht : t ≤ n) : wt c' (t - f) (n - t) = wt c (t - f) f := by
  have := tab_mirror (G := wF c) (G' := wF c') (n := n) (fun f p t b a h1 h2 h3 => by
    unfold wF
    rw [h p (by omega)]
    omega) (t - f) f (by omega)
  rw [show f + (t - f) = t by omega] at this
  exact this
theorem Mirror.worst {d D : DLine} (h : Mirror d D) (hv : Go.Proofs.Ytpolipcicfjkiaa.valid d = true) (f t : Nat) (hf : f ≤ t) (ht : t ≤ d.odds.length) : worstN D (d.odds.length - t) (d.odds.length - f) = worstN d f t := by
  rw [worst_wt, worst_wt, show d.odds.length - f - (d.odds.length - t) = t - f by omega]
  exact mirror_wt (fun q hq => h.cost hv q hq) f t hf ht
theorem Mirror.avg {d D : DLine} (h : Mirror d D) (hv : Go.Proofs.Ytpolipcicfjkiaa.valid d = true) (f t : Nat) (hf : f ≤ t) (ht : t ≤ d.odds.length) : avgN D (d.odds.length - t) (d.odds.length - f) = avgN d f t := by
  unfold avgN
  have := tab_mirror (G := sumP d) (G' := sumP D) (n := d.odds.length) (fun f p t b a h1 h2 h3 => by
    unfold sumP
    rw [h.cost hv p (by omega), h.oddsOf f t (by omega) h3]
    omega) (t - f) f (by omega)
  rw [show f + (t - f) = t by omega] at this
  rw [show d.odds.length - f - (d.odds.length - t) = t - f by omega]
  exact this
end Go.Proofs.Ytpolipcicfjkiaa
/- What a clash, a truth, the least and the greatest flow have to do with each other: plain laws. No program here. -/
namespace Go.Proofs.Ytpolipcicfjkiaa
theorem clA_none (ps : List Pt) (b : Nat) : ∀ k, clA ps b k = none ↔ ∀ a, a < k → (ps.getD b default).lo ≤ (ps.getD a default).hi
  | 0 => by simp [clA]
  | k + 1 => by
    have ih := clA_none ps b k
    unfold clA
    split
    · rename_i h
      constructor
      · intro h'; cases h'
      · intro h'; have := h' k (by omega); omega
    · rename_i h
      rw [ih]
      constructor
      · intro h' a ha
        by_cases e : a = k
        · subst e; omega
        · exact h' a (by omega)
      · intro h' a ha; exact h' a (by omega)
theorem clA_some (ps : List Pt) (b : Nat) : ∀ k a, clA ps b k = some a → a < k ∧ (ps.getD a default).hi < (ps.getD b default).lo
  | 0, a, h => by simp [clA] at h
  | k + 1, a, h => by
    unfold clA at h
    split at h
    · rename_i h'
      cases h
      exact ⟨by omega, h'⟩
    · have := clA_some ps b k a h
      exact ⟨by omega, this.2⟩
theorem clB_none (ps : List Pt) : ∀ m, m ≤ ps.length → (clB ps m = none ↔ ∀ b, ps.length - m ≤ b → b < ps.length → ∀ a, a < b → (ps.getD b default).lo ≤ (ps.getD a default).hi)
  | 0, _ => by simp [clB]; intro b h1 h2; omega
  | m + 1, hm => by
    have ih := clB_none ps m (by omega)
    unfold clB
    cases h : clA ps (ps.length - (m + 1)) (ps.length - (m + 1)) with
    | some a =>
      simp only
      constructor
      · intro h'; cases h'
      · intro h'
        obtain ⟨h1, h2⟩ := clA_some _ _ _ _ h
        have := h' _ (Nat.le_refl _) (by omega) a h1
        omega
    | none =>
      have hn := (clA_none _ _ _).1 h
      simp only
      rw [ih]
      constructor
      · intro h' b h1 h2 a ha
        by_cases e : b = ps.length - (m + 1)
        · subst e; exact hn a ha
        · exact h' b (by omega) h2 a ha
      · intro h' b h1 h2 a ha; exact h' b (by omega) h2 a ha
theorem clB_some (ps : List Pt) : ∀ m a b, m ≤ ps.length → clB ps m = some (a, b) → a < b ∧ b < ps.length ∧ (ps.getD a default).hi < (ps.getD b default).lo
  | 0, a, b, _, h => by simp [clB] at h
  | m + 1, a, b, hm, h => by
    unfold clB at h
    split at h
    · rename_i a' h'
      cases h
      obtain ⟨h1, h2⟩ := clA_some _ _ _ _ h'
      exact ⟨h1, by omega, h2⟩
    · exact clB_some ps m a b (by omega) h
/-- No two points contradict each other. -/
def calm (ps : List Pt) : Prop := ∀ b, b < ps.length → ∀ a, a < b → (ps.getD b default).lo ≤ (ps.getD a default).hi
theorem clash_none (d : DLine) : clashO d = none ↔ calm d.pts := by
  unfold clashO calm
  rw [clB_none d.pts _ (Nat.le_refl _)]
  simp
theorem clash_some (d : DLine) (a b : Nat) (h : clashO d = some (a, b)) : a < b ∧ b < d.pts.length ∧ (d.pts.getD a default).hi < (d.pts.getD b default).lo := clB_some _ _ _ _ (Nat.le_refl _) h

theorem hiPre_all (ps : List Pt) : ∀ k, k ≤ ps.length → ∀ x, (x ≤ hiPre ps k ↔ x ≤ 99 ∧ ∀ i, i < k → x ≤ (ps.getD i default).hi)
  | 0, _, x => by simp [hiPre]
  | k + 1, h, x => by
    rw [hiPre_succ ps k (by omega)]
    have ih := hiPre_all ps k (by omega) x
    have e : ps.getD k default = ps[k] := by simp [List.getD, List.getElem?_eq_getElem (show k < ps.length by omega)]
    constructor
    · intro h'
      obtain ⟨h1, h2⟩ := ih.1 (by omega)
      refine ⟨h1, fun i hi => ?_⟩
      by_cases hk : i = k
      · subst hk; rw [e]; omega
      · exact h2 i (by omega)
    · intro ⟨h1, h2⟩
      have h3 := ih.2 ⟨h1, fun i hi => h2 i (by omega)⟩
      have h4 := h2 k (by omega)
      rw [e] at h4
      omega
theorem loSuf_all (ps : List Pt) : ∀ m k, k + m = ps.length → ∀ x, (loSuf ps k ≤ x ↔ 0 ≤ x ∧ ∀ i, k ≤ i → i < ps.length → (ps.getD i default).lo ≤ x)
  | 0, k, h, x => by
    have e : loSuf ps k = 0 := by unfold loSuf; rw [List.drop_eq_nil_of_le (by omega)]; rfl
    rw [e]
    constructor
    · intro h'; exact ⟨h', fun i h1 h2 => by omega⟩
    · intro h'; exact h'.1
  | m + 1, k, h, x => by
    have hk : k < ps.length := by omega
    rw [loSuf_succ ps k hk]
    have ih := loSuf_all ps m (k + 1) (by omega) x
    have e : ps.getD k default = ps[k] := by simp [List.getD, List.getElem?_eq_getElem hk]
    constructor
    · intro h'
      obtain ⟨h1, h2⟩ := ih.1 (by omega)
      refine ⟨h1, fun i hi hi' => ?_⟩
      by_cases hk : i = k
      · subst hk; rw [e]; omega
      · exact h2 i (by omega) hi'
    · intro ⟨h1, h2⟩
      have h3 := ih.2 ⟨h1, fun i hi hi' => h2 i (by omega) hi'⟩
      have h4 := h2 k (by omega) hk
      rw [e] at h4
      omega
theorem loSuf_le (ps : List Pt) (k : Nat) (hk : k ≤ ps.length) (x : Int) : loSuf ps k ≤ x ↔ 0 ≤ x ∧ ∀ i, k ≤ i → i < ps.length → (ps.getD i default).lo ≤ x :=
  loSuf_all ps (ps.length - k) k (by omega) x
/-- In a valid line each point's own bounds fit. -/
theorem valid_pt {d : DLine} (h : valid d = true) (i : Nat) (hi : i < d.pts.length) : 0 ≤ (d.pts.getD i default).lo ∧ (d.pts.getD i default).lo ≤ (d.pts.getD i default).hi ∧ (d.pts.getD i default).hi ≤ 99 := by
  have e : d.pts.getD i default = d.pts[i] := by simp [List.getD, List.getElem?_eq_getElem hi]
  rw [e]
  have := (valid_spec h).2.2.1 _ (List.getElem_mem hi)
  omega
theorem calm_flow {d : DLine} (h : valid d = true) (hc : calm d.pts) (i : Nat) (hi : i < d.pts.length) : loSuf d.pts i ≤ hiPre d.pts (i + 1) := by
  rw [hiPre_all _ _ (by omega)]
  refine ⟨(loSuf_bd h (d.pts.length - i) i (by omega)).2, fun a ha => ?_⟩
  rw [loSuf_le _ _ (by omega)]
  have ha' := valid_pt h a (by omega)
  refine ⟨by omega, fun b hb hb' => ?_⟩
  rcases Nat.lt_or_ge a b with hab | hab
  · exact hc b hb' a hab
  · have : a = b := by omega
    subst this
    exact ha'.2.1

/-- Whether flows are a truth. -/
def okAt (d : DLine) (l : List Int) (i : Nat) : Bool := inR (l.getD i 0) (d.pts.getD i default).lo (d.pts.getD i default).hi && !(decide (0 < i) && decide (l.getD (i - 1) 0 < l.getD i 0))
def truthB (d : DLine) (l : List Int) : Bool := decide (l.length = d.pts.length) && (List.range l.length).all (okAt d l)
theorem truth_not {d : DLine} {l : List Int} (i : Nat) (hi : i < l.length) (h : okAt d l i = false) : truthB d l = false := by
  refine Bool.eq_false_iff.2 fun h' => ?_
  unfold truthB at h'
  simp only [Bool.and_eq_true, List.all_eq_true, List.mem_range] at h'
  rw [h'.2 i hi] at h
  cases h
theorem truth_yes {d : DLine} {l : List Int} (hl : l.length = d.pts.length) (h : ∀ i, i < l.length → okAt d l i = true) : truthB d l = true := by
  unfold truthB
  simp only [Bool.and_eq_true, List.all_eq_true, List.mem_range, decide_eq_true_eq]
  exact ⟨hl, h⟩
theorem truth_spec (d : DLine) (l : List Int) : truthB d l = true ↔ l.length = d.pts.length ∧ ∀ i, i < d.pts.length → (d.pts.getD i default).lo ≤ l.getD i 0 ∧ l.getD i 0 ≤ (d.pts.getD i default).hi ∧ (0 < i → l.getD i 0 ≤ l.getD (i - 1) 0) := by
  unfold truthB
  simp only [okAt, Bool.and_eq_true, decide_eq_true_eq, List.all_eq_true, List.mem_range, inR, Bool.not_eq_true', Bool.and_eq_false_iff, decide_eq_false_iff_not]
  constructor
  · rintro ⟨h1, h2⟩
    refine ⟨h1, fun i hi => ?_⟩
    have := h2 i (by omega)
    exact ⟨this.1.1, this.1.2, fun h => by omega⟩
  · rintro ⟨h1, h2⟩
    refine ⟨h1, fun i hi => ?_⟩
    have := h2 i (by omega)
    refine ⟨⟨this.1, this.2.1⟩, ?_⟩
    by_cases h0 : 0 < i
    · have := this.2.2 h0; right; omega
    · left; omega
theorem truth_down {d : DLine} {l : List Int} (h : truthB d l = true) : ∀ j i, i ≤ j → j < d.pts.length → l.getD j 0 ≤ l.getD i 0
  | 0, i, h1, h2 => by have : i = 0 := by omega
                       subst this; exact Int.le_refl _
  | j + 1, i, h1, h2 => by
    by_cases e : i = j + 1
    · subst e; exact Int.le_refl _
    · have ih := truth_down h j i (by omega) (by omega)
      have := ((truth_spec d l).1 h).2 (j + 1) h2
      have := this.2.2 (by omega)
      simp only [Nat.add_sub_cancel] at this
      omega
/-- A truth lies within the flows; where there is one, no two points contradict each other. -/
theorem truth_in {d : DLine} (hv : valid d = true) {l : List Int} (h : truthB d l = true) (i : Nat) (hi : i < d.pts.length) : loSuf d.pts i ≤ l.getD i 0 ∧ l.getD i 0 ≤ hiPre d.pts (i + 1) := by
  have hs := ((truth_spec d l).1 h).2
  constructor
  · rw [loSuf_le _ _ (by omega)]
    have h0 := hs i hi
    have hp := valid_pt hv i hi
    refine ⟨by omega, fun b h1 h2 => ?_⟩
    have := truth_down h b i h1 h2
    have := hs b h2
    omega
  · rw [hiPre_all _ _ (by omega)]
    have h0 := hs i hi
    have hp := valid_pt hv i hi
    refine ⟨by omega, fun a ha => ?_⟩
    have := truth_down h i a (by omega) hi
    have := hs a (by omega)
    omega
theorem truth_calm {d : DLine} {l : List Int} (h : truthB d l = true) : calm d.pts := by
  intro b hb a ha
  have hs := ((truth_spec d l).1 h).2
  have := truth_down h b a (by omega) hb
  have := hs a (by omega)
  have := hs b hb
  omega
/-- The greatest flows. -/
def hiL (d : DLine) : List Int := (List.range d.pts.length).map fun i => hiPre d.pts (i + 1)
theorem hiL_get (d : DLine) (i : Nat) (hi : i < d.pts.length) : (hiL d).getD i 0 = hiPre d.pts (i + 1) := by simp [hiL, List.getD, hi]
theorem hiPre_down (ps : List Pt) (k : Nat) (h : k < ps.length) : hiPre ps (k + 1) ≤ hiPre ps k := by rw [hiPre_succ ps k h]; omega
def oneB (d : DLine) : Bool := truthB d (hiL d)
theorem oneB_iff {d : DLine} (hv : valid d = true) : oneB d = true ↔ calm d.pts := by
  constructor
  · exact truth_calm
  · intro hc
    unfold oneB
    rw [truth_spec]
    refine ⟨by simp [hiL], fun i hi => ?_⟩
    rw [hiL_get d i hi]
    have h1 := calm_flow hv hc i hi
    have h2 := (loSuf_le d.pts i (by omega) (loSuf d.pts i)).1 (Int.le_refl _)
    have h3 := h2.2 i (Nat.le_refl _) hi
    have h4 := (hiPre_all d.pts (i + 1) (by omega) (hiPre d.pts (i + 1))).1 (Int.le_refl _)
    have h5 := h4.2 i (by omega)
    refine ⟨by omega, h5, fun h0 => ?_⟩
    rw [hiL_get d (i - 1) (by omega), show i - 1 + 1 = i by omega]
    exact hiPre_down _ _ hi
theorem oneB_clash {d : DLine} (hv : valid d = true) : oneB d = (clashO d).isNone := by
  cases h : oneB d
  · cases h' : clashO d with
    | none =>
      rw [(oneB_iff hv).2 ((clash_none d).1 h')] at h
      cases h
    | some x => rfl
  · rw [(clash_none d).2 ((oneB_iff hv).1 h)]; rfl

/-- A line past one of whose points just so much flows. -/
def setFlow (d : DLine) (p : Nat) (lo hi : Int) : DLine := { d with pts := d.pts.modify p fun x => { x with lo := lo, hi := hi } }
theorem setFlow_len (d : DLine) (p : Nat) (lo hi : Int) : (setFlow d p lo hi).pts.length = d.pts.length ∧ (setFlow d p lo hi).odds = d.odds := by simp [setFlow]
theorem setFlow_get (d : DLine) (p : Nat) (lo hi : Int) (i : Nat) (hp : p < d.pts.length) : ((setFlow d p lo hi).pts.getD i default).lo = (if i = p then lo else (d.pts.getD i default).lo) ∧ ((setFlow d p lo hi).pts.getD i default).hi = (if i = p then hi else (d.pts.getD i default).hi) := by
  unfold setFlow
  simp only [List.getD, List.getElem?_modify]
  by_cases h : p = i
  · subst h
    simp [List.getElem?_eq_getElem hp]
  · rw [if_neg (fun e => h e.symm), if_neg (fun e => h e.symm)]
    simp [h]
theorem setFlow_valid {d : DLine} (h : valid d = true) (p : Nat) (lo hi : Int) (h0 : 0 ≤ lo) (h1 : lo ≤ hi) (h2 : hi ≤ 99) : valid (setFlow d p lo hi) = true := by
  unfold valid at h ⊢
  simp only [Bool.and_eq_true, decide_eq_true_eq, Bool.not_eq_true', List.any_eq_false] at h ⊢
  obtain ⟨⟨⟨a1, a2⟩, a3⟩, a4⟩ := h
  refine ⟨⟨⟨a1, a2⟩, by rw [(setFlow_len d p lo hi).1]; exact a3⟩, fun x hx => ?_⟩
  obtain ⟨i, hi', rfl⟩ := List.mem_iff_getElem.1 hx
  unfold setFlow at hi' ⊢
  simp only [List.length_modify] at hi'
  have h3 := a4 _ (List.getElem_mem hi')
  simp only [badPt, inR, Bool.not_eq_true, Bool.or_eq_false_iff, Bool.not_eq_false', Bool.and_eq_true, decide_eq_true_eq] at h3 ⊢
  rw [List.getElem_modify]
  split
  · simp only; omega
  · omega
theorem calm_setFlow {d : DLine} (hv : valid d = true) (hc : calm d.pts) (p : Nat) (hp : p < d.pts.length) (x : Int) (h0 : (d.pts.getD p default).lo ≤ x) (h1 : x ≤ (d.pts.getD p default).hi) :
    calm (setFlow d p x x).pts ↔ loSuf d.pts p ≤ x ∧ x ≤ hiPre d.pts (p + 1) := by
  have hpp := valid_pt hv p hp
  constructor
  · intro h
    constructor
    · rw [loSuf_le _ _ (by omega)]
      refine ⟨by omega, fun b h2 h3 => ?_⟩
      by_cases e : b = p
      · subst e; exact h0
      · have := h b (by rw [(setFlow_len d p x x).1]; exact h3) p (by omega)
        rw [(setFlow_get d p x x b hp).1, (setFlow_get d p x x p hp).2, if_neg e, if_pos rfl] at this
        exact this
    · rw [hiPre_all _ _ (by omega)]
      refine ⟨by omega, fun a ha => ?_⟩
      by_cases e : a = p
      · subst e; exact h1
      · have := h p (by rw [(setFlow_len d p x x).1]; exact hp) a (by omega)
        rw [(setFlow_get d p x x p hp).1, (setFlow_get d p x x a hp).2, if_neg e, if_pos rfl] at this
        exact this
  · rintro ⟨h2, h3⟩ b hb a ha
    rw [(setFlow_len d p x x).1] at hb
    rw [(setFlow_get d p x x b hp).1, (setFlow_get d p x x a hp).2]
    have l2 := ((loSuf_le d.pts p (by omega) x).1 h2).2
    have l3 := ((hiPre_all d.pts (p + 1) (by omega) x).1 h3).2
    by_cases e : b = p
    · subst e
      rw [if_pos rfl, if_neg (by omega)]
      exact l3 a (by omega)
    · rw [if_neg e]
      by_cases e' : a = p
      · subst e'; rw [if_pos rfl]; exact l2 b (by omega) hb
      · rw [if_neg e']; exact hc b hb a ha
/-- Whether past a point so much can flow. -/
def canB (d : DLine) (p : Nat) (x : Int) : Bool := inR x (d.pts.getD p default).lo (d.pts.getD p default).hi && oneB (setFlow d p x x)
theorem canB_eq {d : DLine} (hv : valid d = true) (hc : calm d.pts) (p : Nat) (hp : p < d.pts.length) (x : Int) : canB d p x = inR x (loSuf d.pts p) (hiPre d.pts (p + 1)) := by
  have hpp := valid_pt hv p hp
  have l2 := ((loSuf_le d.pts p (by omega) (loSuf d.pts p)).1 (Int.le_refl _)).2 p (Nat.le_refl _) hp
  have l3 := ((hiPre_all d.pts (p + 1) (by omega) (hiPre d.pts (p + 1))).1 (Int.le_refl _)).2 p (by omega)
  rw [Bool.eq_iff_iff]
  unfold canB
  simp only [inR, Bool.and_eq_true, decide_eq_true_eq]
  constructor
  · rintro ⟨⟨h0, h1⟩, h⟩
    exact (calm_setFlow hv hc p hp x h0 h1).1 ((oneB_iff (setFlow_valid hv p x x (by omega) (by omega) (by omega))).1 h)
  · rintro ⟨h0, h1⟩
    exact ⟨⟨by omega, by omega⟩, (oneB_iff (setFlow_valid hv p x x (by omega) (by omega) (by omega))).2 ((calm_setFlow hv hc p hp x (by omega) (by omega)).2 ⟨h0, h1⟩)⟩
/-- The flows of a line past one of whose points just so much flows. -/
theorem flow_setFlow {d : DLine} (p q : Nat) (hpq : p < q) (hq : q < d.pts.length) (x : Int) (h0 : loSuf d.pts p ≤ x) (h1 : x ≤ hiPre d.pts (p + 1)) :
    flowAt (setFlow d p x x) q = (loSuf d.pts q, min x (hiPre d.pts (q + 1))) := by
  have hp : p < d.pts.length := by omega
  have hl := (setFlow_len d p x x).1
  have l3 := ((hiPre_all d.pts (p + 1) (by omega) x).1 h1)
  unfold flowAt
  have e1 : loSuf (setFlow d p x x).pts q = loSuf d.pts q := by
    refine Int.le_antisymm ?_ ?_
    · rw [loSuf_le _ _ (by rw [hl]; omega)]
      have := (loSuf_le d.pts q (by omega) (loSuf d.pts q)).1 (Int.le_refl _)
      refine ⟨this.1, fun i h2 h3 => ?_⟩
      rw [(setFlow_get d p x x i hp).1, if_neg (by omega)]
      exact this.2 i h2 (by rw [hl] at h3; exact h3)
    · rw [loSuf_le _ _ (by omega)]
      have := (loSuf_le (setFlow d p x x).pts q (by rw [hl]; omega) (loSuf (setFlow d p x x).pts q)).1 (Int.le_refl _)
      refine ⟨this.1, fun i h2 h3 => ?_⟩
      have := this.2 i h2 (by rw [hl]; exact h3)
      rw [(setFlow_get d p x x i hp).1, if_neg (by omega)] at this
      exact this
  have e2 : hiPre (setFlow d p x x).pts (q + 1) = min x (hiPre d.pts (q + 1)) := by
    refine Int.le_antisymm ?_ ?_
    · have h4 := (hiPre_all (setFlow d p x x).pts (q + 1) (by rw [hl]; omega) (hiPre (setFlow d p x x).pts (q + 1))).1 (Int.le_refl _)
      have h5 := h4.2 p (by omega)
      rw [(setFlow_get d p x x p hp).2, if_pos rfl] at h5
      have h6 := (hiPre_all d.pts (q + 1) (by omega) (hiPre (setFlow d p x x).pts (q + 1))).2 ⟨h4.1, fun i hi => by
        by_cases e : i = p
        · subst e; have := l3.2 i (by omega); omega
        · have := h4.2 i hi
          rw [(setFlow_get d p x x i hp).2, if_neg e] at this
          exact this⟩
      omega
    · have h4 := (hiPre_all d.pts (q + 1) (by omega) (hiPre d.pts (q + 1))).1 (Int.le_refl _)
      rw [hiPre_all _ _ (by rw [hl]; omega)]
      refine ⟨by omega, fun i hi => ?_⟩
      rw [(setFlow_get d p x x i hp).2]
      split
      · omega
      · have := h4.2 i hi; omega
  rw [e1, e2]
theorem flow_self {d : DLine} (hv : valid d = true) (hc : calm d.pts) (p : Nat) (hp : p < d.pts.length) (x : Int) (h0 : loSuf d.pts p ≤ x) (h1 : x ≤ hiPre d.pts (p + 1)) :
    flowAt (setFlow d p x x) p = (x, x) := by
  have hpp := valid_pt hv p hp
  have l2 := ((loSuf_le d.pts p (by omega) x).1 h0)
  have l3 := ((hiPre_all d.pts (p + 1) (by omega) x).1 h1)
  have hl := (setFlow_len d p x x).1
  have hV := setFlow_valid hv p x x l2.1 (Int.le_refl _) l3.1
  have hC := (calm_setFlow hv hc p hp x (l2.2 p (Nat.le_refl _) hp) (l3.2 p (by omega))).2 ⟨h0, h1⟩
  have hf := calm_flow hV hC p (by rw [hl]; exact hp)
  have a1 := ((loSuf_le (setFlow d p x x).pts p (by rw [hl]; omega) (loSuf (setFlow d p x x).pts p)).1 (Int.le_refl _)).2 p (Nat.le_refl _) (by rw [hl]; exact hp)
  have a2 := ((hiPre_all (setFlow d p x x).pts (p + 1) (by rw [hl]; omega) (hiPre (setFlow d p x x).pts (p + 1))).1 (Int.le_refl _)).2 p (by omega)
  rw [(setFlow_get d p x x p hp).1, if_pos rfl] at a1
  rw [(setFlow_get d p x x p hp).2, if_pos rfl] at a2
  unfold flowAt
  rw [show loSuf (setFlow d p x x).pts p = x by omega, show hiPre (setFlow d p x x).pts (p + 1) = x by omega]
end Go.Proofs.Ytpolipcicfjkiaa
