/- What a clash, a truth, the least and the greatest flow have to do with each other: plain laws. No program here. -/
import Derived.Test.YtldcehhhndlhdaaC10
import Derived.Test.YtldcehhhndlhdaaC13
namespace Go.Proofs.Ytldcehhhndlhdaa
theorem clA_none (ps : List Pt) (b : Nat) : ∀ k, clA ps b k = none ↔ ∀ a, a < k → (ps.getD b default).lo ≤ (ps.getD a default).hi
  | 0 => by simp [clA]
  | k + 1 => by
    have ih := clA_none ps b k
    unfold clA
    split
    · rename_i h
      constructor
      · intro h'; cases h'
      · intro h'; have := h' k (by omega); omega
    · rename_i h
      rw [ih]
      constructor
      · intro h' a ha
        by_cases e : a = k
        · subst e; omega
        · exact h' a (by omega)
      · intro h' a ha; exact h' a (by omega)
theorem clA_some (ps : List Pt) (b : Nat) : ∀ k a, clA ps b k = some a → a < k ∧ (ps.getD a default).hi < (ps.getD b default).lo
  | 0, a, h => by simp [clA] at h
  | k + 1, a, h => by
    unfold clA at h
    split at h
    · rename_i h'
      cases h
      exact ⟨by omega, h'⟩
    · have := clA_some ps b k a h
      exact ⟨by omega, this.2⟩
theorem clB_none (ps : List Pt) : ∀ m, m ≤ ps.length → (clB ps m = none ↔ ∀ b, ps.length - m ≤ b → b < ps.length → ∀ a, a < b → (ps.getD b default).lo ≤ (ps.getD a default).hi)
  | 0, _ => by simp [clB]; intro b h1 h2; omega
  | m + 1, hm => by
    have ih := clB_none ps m (by omega)
    unfold clB
    cases h : clA ps (ps.length - (m + 1)) (ps.length - (m + 1)) with
    | some a =>
      simp only
      constructor
      · intro h'; cases h'
      · intro h'
        obtain ⟨h1, h2⟩ := clA_some _ _ _ _ h
        have := h' _ (Nat.le_refl _) (by omega) a h1
        omega
    | none =>
      have hn := (clA_none _ _ _).1 h
      simp only
      rw [ih]
      constructor
      · intro h' b h1 h2 a ha
        by_cases e : b = ps.length - (m + 1)
        · subst e; exact hn a ha
        · exact h' b (by omega) h2 a ha
      · intro h' b h1 h2 a ha; exact h' b (by omega) h2 a ha
theorem clB_some (ps : List Pt) : ∀ m a b, m ≤ ps.length → clB ps m = some (a, b) → a < b ∧ b < ps.length ∧ (ps.getD a default).hi < (ps.getD b default).lo
  | 0, a, b, _, h => by simp [clB] at h
  | m + 1, a, b, hm, h => by
    unfold clB at h
    split at h
    · rename_i a' h'
      cases h
      obtain ⟨h1, h2⟩ := clA_some _ _ _ _ h'
      exact ⟨h1, by omega, h2⟩
    · exact clB_some ps m a b (by omega) h
/-- No two points contradict each other. -/
def calm (ps : List Pt) : Prop := ∀ b, b < ps.length → ∀ a, a < b → (ps.getD b default).lo ≤ (ps.getD a default).hi
theorem clash_none (d : DLine) : clashO d = none ↔ calm d.pts := by
  unfold clashO calm
  rw [clB_none d.pts _ (Nat.le_refl _)]
  simp
theorem clash_some (d : DLine) (a b : Nat) (h : clashO d = some (a, b)) : a < b ∧ b < d.pts.length ∧ (d.pts.getD a default).hi < (d.pts.getD b default).lo := clB_some _ _ _ _ (Nat.le_refl _) h

theorem hiPre_all (ps : List Pt) : ∀ k, k ≤ ps.length → ∀ x, (x ≤ hiPre ps k ↔ x ≤ 99 ∧ ∀ i, i < k → x ≤ (ps.getD i default).hi)
  | 0, _, x => by simp [hiPre]
  | k + 1, h, x => by
    rw [hiPre_succ ps k (by omega)]
    have ih := hiPre_all ps k (by omega) x
    have e : ps.getD k default = ps[k] := by simp [List.getD, List.getElem?_eq_getElem (show k < ps.length by omega)]
    constructor
    · intro h'
      obtain ⟨h1, h2⟩ := ih.1 (by omega)
      refine ⟨h1, fun i hi => ?_⟩
      by_cases hk : i = k
      · subst hk; rw [e]; omega
      · exact h2 i (by omega)
    · intro ⟨h1, h2⟩
      have h3 := ih.2 ⟨h1, fun i hi => h2 i (by omega)⟩
      have h4 := h2 k (by omega)
      rw [e] at h4
      omega
theorem loSuf_all (ps : List Pt) : ∀ m k, k + m = ps.length → ∀ x, (loSuf ps k ≤ x ↔ 0 ≤ x ∧ ∀ i, k ≤ i → i < ps.length → (ps.getD i default).lo ≤ x)
  | 0, k, h, x => by
    have e : loSuf ps k = 0 := by unfold loSuf; rw [List.drop_eq_nil_of_le (by omega)]; rfl
    rw [e]
    constructor
    · intro h'; exact ⟨h', fun i h1 h2 => by omega⟩
    · intro h'; exact h'.1
  | m + 1, k, h, x => by
    have hk : k < ps.length := by omega
    rw [loSuf_succ ps k hk]
    have ih := loSuf_all ps m (k + 1) (by omega) x
    have e : ps.getD k default = ps[k] := by simp [List.getD, List.getElem?_eq_getElem hk]
    constructor
    · intro h'
      obtain ⟨h1, h2⟩ := ih.1 (by omega)
      refine ⟨h1, fun i hi hi' => ?_⟩
      by_cases hk : i = k
      · subst hk; rw [e]; omega
      · exact h2 i (by omega) hi'
    · intro ⟨h1, h2⟩
      have h3 := ih.2 ⟨h1, fun i hi hi' => h2 i (by omega) hi'⟩
      have h4 := h2 k (by omega) hk
      rw [e] at h4
      omega
theorem loSuf_le (ps : List Pt) (k : Nat) (hk : k ≤ ps.length) (x : Int) : loSuf ps k ≤ x ↔ 0 ≤ x ∧ ∀ i, k ≤ i → i < ps.length → (ps.getD i default).lo ≤ x :=
  loSuf_all ps (ps.length - k) k (by omega) x
/-- In a valid line each point's own bounds fit. -/
theorem valid_pt {d : DLine} (h : valid d = true) (i : Nat) (hi : i < d.pts.length) : 0 ≤ (d.pts.getD i default).lo ∧ (d.pts.getD i default).lo ≤ (d.pts.getD i default).hi ∧ (d.pts.getD i default).hi ≤ 99 := by
  have e : d.pts.getD i default = d.pts[i] := by simp [List.getD, List.getElem?_eq_getElem hi]
  rw [e]
  have := (valid_spec h).2.2.1 _ (List.getElem_mem hi)
  omega
theorem calm_flow {d : DLine} (h : valid d = true) (hc : calm d.pts) (i : Nat) (hi : i < d.pts.length) : loSuf d.pts i ≤ hiPre d.pts (i + 1) := by
  rw [hiPre_all _ _ (by omega)]
  refine ⟨(loSuf_bd h (d.pts.length - i) i (by omega)).2, fun a ha => ?_⟩
  rw [loSuf_le _ _ (by omega)]
  have ha' := valid_pt h a (by omega)
  refine ⟨by omega, fun b hb hb' => ?_⟩
  rcases Nat.lt_or_ge a b with hab | hab
  · exact hc b hb' a hab
  · have : a = b := by omega
    subst this
    exact ha'.2.1

/-- Whether flows are a truth. -/
def okAt (d : DLine) (l : List Int) (i : Nat) : Bool := inR (l.getD i 0) (d.pts.getD i default).lo (d.pts.getD i default).hi && !(decide (0 < i) && decide (l.getD (i - 1) 0 < l.getD i 0))
def truthB (d : DLine) (l : List Int) : Bool := decide (l.length = d.pts.length) && (List.range l.length).all (okAt d l)
theorem truth_not {d : DLine} {l : List Int} (i : Nat) (hi : i < l.length) (h : okAt d l i = false) : truthB d l = false := by
  refine Bool.eq_false_iff.2 fun h' => ?_
  unfold truthB at h'
  simp only [Bool.and_eq_true, List.all_eq_true, List.mem_range] at h'
  rw [h'.2 i hi] at h
  cases h
theorem truth_yes {d : DLine} {l : List Int} (hl : l.length = d.pts.length) (h : ∀ i, i < l.length → okAt d l i = true) : truthB d l = true := by
  unfold truthB
  simp only [Bool.and_eq_true, List.all_eq_true, List.mem_range, decide_eq_true_eq]
  exact ⟨hl, h⟩
theorem truth_spec (d : DLine) (l : List Int) : truthB d l = true ↔ l.length = d.pts.length ∧ ∀ i, i < d.pts.length → (d.pts.getD i default).lo ≤ l.getD i 0 ∧ l.getD i 0 ≤ (d.pts.getD i default).hi ∧ (0 < i → l.getD i 0 ≤ l.getD (i - 1) 0) := by
  unfold truthB
  simp only [okAt, Bool.and_eq_true, decide_eq_true_eq, List.all_eq_true, List.mem_range, inR, Bool.not_eq_true', Bool.and_eq_false_iff, decide_eq_false_iff_not]
  constructor
  · rintro ⟨h1, h2⟩
    refine ⟨h1, fun i hi => ?_⟩
    have := h2 i (by omega)
    exact ⟨this.1.1, this.1.2, fun h => by omega⟩
  · rintro ⟨h1, h2⟩
    refine ⟨h1, fun i hi => ?_⟩
    have := h2 i (by omega)
    refine ⟨⟨this.1, this.2.1⟩, ?_⟩
    by_cases h0 : 0 < i
    · have := this.2.2 h0; right; omega
    · left; omega
theorem truth_down {d : DLine} {l : List Int} (h : truthB d l = true) : ∀ j i, i ≤ j → j < d.pts.length → l.getD j 0 ≤ l.getD i 0
  | 0, i, h1, h2 => by have : i = 0 := by omega
                       subst this; exact Int.le_refl _
  | j + 1, i, h1, h2 => by
    by_cases e : i = j + 1
    · subst e; exact Int.le_refl _
    · have ih := truth_down h j i (by omega) (by omega)
      have := ((truth_spec d l).1 h).2 (j + 1) h2
      have := this.2.2 (by omega)
      simp only [Nat.add_sub_cancel] at this
      omega
/-- A truth lies within the flows; where there is one, no two points contradict each other. -/
theorem truth_in {d : DLine} (hv : valid d = true) {l : List Int} (h : truthB d l = true) (i : Nat) (hi : i < d.pts.length) : loSuf d.pts i ≤ l.getD i 0 ∧ l.getD i 0 ≤ hiPre d.pts (i + 1) := by
  have hs := ((truth_spec d l).1 h).2
  constructor
  · rw [loSuf_le _ _ (by omega)]
    have h0 := hs i hi
    have hp := valid_pt hv i hi
    refine ⟨by omega, fun b h1 h2 => ?_⟩
    have := truth_down h b i h1 h2
    have := hs b h2
    omega
  · rw [hiPre_all _ _ (by omega)]
    have h0 := hs i hi
    have hp := valid_pt hv i hi
    refine ⟨by omega, fun a ha => ?_⟩
    have := truth_down h i a (by omega) hi
    have := hs a (by omega)
    omega
theorem truth_calm {d : DLine} {l : List Int} (h : truthB d l = true) : calm d.pts := by
  intro b hb a ha
  have hs := ((truth_spec d l).1 h).2
  have := truth_down h b a (by omega) hb
  have := hs a (by omega)
  have := hs b hb
  omega
/-- The greatest flows. -/
def hiL (d : DLine) : List Int := (List.range d.pts.length).map fun i => hiPre d.pts (i + 1)
theorem hiL_get (d : DLine) (i : Nat) (hi : i < d.pts.length) : (hiL d).getD i 0 = hiPre d.pts (i + 1) := by simp [hiL, List.getD, hi]
theorem hiPre_down (ps : List Pt) (k : Nat) (h : k < ps.length) : hiPre ps (k + 1) ≤ hiPre ps k := by rw [hiPre_succ ps k h]; omega
def oneB (d : DLine) : Bool := truthB d (hiL d)
theorem oneB_iff {d : DLine} (hv : valid d = true) : oneB d = true ↔ calm d.pts := by
  constructor
  · exact truth_calm
  · intro hc
    unfold oneB
    rw [truth_spec]
    refine ⟨by simp [hiL], fun i hi => ?_⟩
    rw [hiL_get d i hi]
    have h1 := calm_flow hv hc i hi
    have h2 := (loSuf_le d.pts i (by omega) (loSuf d.pts i)).1 (Int.le_refl _)
    have h3 := h2.2 i (Nat.le_refl _) hi
    have h4 := (hiPre_all d.pts (i + 1) (by omega) (hiPre d.pts (i + 1))).1 (Int.le_refl _)
    have h5 := h4.2 i (by omega)
    refine ⟨by omega, h5, fun h0 => ?_⟩
    rw [hiL_get d (i - 1) (by omega), show i - 1 + 1 = i by omega]
    exact hiPre_down _ _ hi
theorem oneB_clash {d : DLine} (hv : valid d = true) : oneB d = (clashO d).isNone := by
  cases h : oneB d
  · cases h' : clashO d with
    | none =>
      rw [(oneB_iff hv).2 ((clash_none d).1 h')] at h
      cases h
    | some x => rfl
  · rw [(clash_none d).2 ((oneB_iff hv).1 h)]; rfl

/-- A line past one of whose points just so much flows. -/
def setFlow (d : DLine) (p : Nat) (lo hi : Int) : DLine := { d with pts := d.pts.modify p fun x => { x with lo := lo, hi := hi } }
theorem setFlow_len (d : DLine) (p : Nat) (lo hi : Int) : (setFlow d p lo hi).pts.length = d.pts.length ∧ (setFlow d p lo hi).odds = d.odds := by simp [setFlow]
theorem setFlow_get (d : DLine) (p : Nat) (lo hi : Int) (i : Nat) (hp : p < d.pts.length) : ((setFlow d p lo hi).pts.getD i default).lo = (if i = p then lo else (d.pts.getD i default).lo) ∧ ((setFlow d p lo hi).pts.getD i default).hi = (if i = p then hi else (d.pts.getD i default).hi) := by
  unfold setFlow
  simp only [List.getD, List.getElem?_modify]
  by_cases h : p = i
  · subst h
    simp [List.getElem?_eq_getElem hp]
  · rw [if_neg (fun e => h e.symm), if_neg (fun e => h e.symm)]
    simp [h]
theorem setFlow_valid {d : DLine} (h : valid d = true) (p : Nat) (lo hi : Int) (h0 : 0 ≤ lo) (h1 : lo ≤ hi) (h2 : hi ≤ 99) : valid (setFlow d p lo hi) = true := by
  unfold valid at h ⊢
  simp only [Bool.and_eq_true, decide_eq_true_eq, Bool.not_eq_true', List.any_eq_false] at h ⊢
  obtain ⟨⟨⟨a1, a2⟩, a3⟩, a4⟩ := h
  refine ⟨⟨⟨a1, a2⟩, by rw [(setFlow_len d p lo hi).1]; exact a3⟩, fun x hx => ?_⟩
  obtain ⟨i, hi', rfl⟩ := List.mem_iff_getElem.1 hx
  unfold setFlow at hi' ⊢
  simp only [List.length_modify] at hi'
  have h3 := a4 _ (List.getElem_mem hi')
  simp only [badPt, inR, Bool.not_eq_true, Bool.or_eq_false_iff, Bool.not_eq_false', Bool.and_eq_true, decide_eq_true_eq] at h3 ⊢
  rw [List.getElem_modify]
  split
  · simp only; omega
  · omega
theorem calm_setFlow {d : DLine} (hv : valid d = true) (hc : calm d.pts) (p : Nat) (hp : p < d.pts.length) (x : Int) (h0 : (d.pts.getD p default).lo ≤ x) (h1 : x ≤ (d.pts.getD p default).hi) :
    calm (setFlow d p x x).pts ↔ loSuf d.pts p ≤ x ∧ x ≤ hiPre d.pts (p + 1) := by
  have hpp := valid_pt hv p hp
  constructor
  · intro h
    constructor
    · rw [loSuf_le _ _ (by omega)]
      refine ⟨by omega, fun b h2 h3 => ?_⟩
      by_cases e : b = p
      · subst e; exact h0
      · have := h b (by rw [(setFlow_len d p x x).1]; exact h3) p (by omega)
        rw [(setFlow_get d p x x b hp).1, (setFlow_get d p x x p hp).2, if_neg e, if_pos rfl] at this
        exact this
    · rw [hiPre_all _ _ (by omega)]
      refine ⟨by omega, fun a ha => ?_⟩
      by_cases e : a = p
      · subst e; exact h1
      · have := h p (by rw [(setFlow_len d p x x).1]; exact hp) a (by omega)
        rw [(setFlow_get d p x x p hp).1, (setFlow_get d p x x a hp).2, if_neg e, if_pos rfl] at this
        exact this
  · rintro ⟨h2, h3⟩ b hb a ha
    rw [(setFlow_len d p x x).1] at hb
    rw [(setFlow_get d p x x b hp).1, (setFlow_get d p x x a hp).2]
    have l2 := ((loSuf_le d.pts p (by omega) x).1 h2).2
    have l3 := ((hiPre_all d.pts (p + 1) (by omega) x).1 h3).2
    by_cases e : b = p
    · subst e
      rw [if_pos rfl, if_neg (by omega)]
      exact l3 a (by omega)
    · rw [if_neg e]
      by_cases e' : a = p
      · subst e'; rw [if_pos rfl]; exact l2 b (by omega) hb
      · rw [if_neg e']; exact hc b hb a ha
/-- Whether past a point so much can flow. -/
def canB (d : DLine) (p : Nat) (x : Int) : Bool := inR x (d.pts.getD p default).lo (d.pts.getD p default).hi && oneB (setFlow d p x x)
theorem canB_eq {d : DLine} (hv : valid d = true) (hc : calm d.pts) (p : Nat) (hp : p < d.pts.length) (x : Int) : canB d p x = inR x (loSuf d.pts p) (hiPre d.pts (p + 1)) := by
  have hpp := valid_pt hv p hp
  have l2 := ((loSuf_le d.pts p (by omega) (loSuf d.pts p)).1 (Int.le_refl _)).2 p (Nat.le_refl _) hp
  have l3 := ((hiPre_all d.pts (p + 1) (by omega) (hiPre d.pts (p + 1))).1 (Int.le_refl _)).2 p (by omega)
  rw [Bool.eq_iff_iff]
  unfold canB
  simp only [inR, Bool.and_eq_true, decide_eq_true_eq]
  constructor
  · rintro ⟨⟨h0, h1⟩, h⟩
    exact (calm_setFlow hv hc p hp x h0 h1).1 ((oneB_iff (setFlow_valid hv p x x (by omega) (by omega) (by omega))).1 h)
  · rintro ⟨h0, h1⟩
    exact ⟨⟨by omega, by omega⟩, (oneB_iff (setFlow_valid hv p x x (by omega) (by omega) (by omega))).2 ((calm_setFlow hv hc p hp x (by omega) (by omega)).2 ⟨h0, h1⟩)⟩
/-- The flows of a line past one of whose points just so much flows. -/
theorem flow_setFlow {d : DLine} (p q : Nat) (hpq : p < q) (hq : q < d.pts.length) (x : Int) (h0 : loSuf d.pts p ≤ x) (h1 : x ≤ hiPre d.pts (p + 1)) :
    flowAt (setFlow d p x x) q = (loSuf d.pts q, min x (hiPre d.pts (q + 1))) := by
  have hp : p < d.pts.length := by omega
  have hl := (setFlow_len d p x x).1
  have l3 := ((hiPre_all d.pts (p + 1) (by omega) x).1 h1)
  unfold flowAt
  have e1 : loSuf (setFlow d p x x).pts q = loSuf d.pts q := by
    refine Int.le_antisymm ?_ ?_
    · rw [loSuf_le _ _ (by rw [hl]; omega)]
      have := (loSuf_le d.pts q (by omega) (loSuf d.pts q)).1 (Int.le_refl _)
      refine ⟨this.1, fun i h2 h3 => ?_⟩
      rw [(setFlow_get d p x x i hp).1, if_neg (by omega)]
      exact this.2 i h2 (by rw [hl] at h3; exact h3)
    · rw [loSuf_le _ _ (by omega)]
      have := (loSuf_le (setFlow d p x x).pts q (by rw [hl]; omega) (loSuf (setFlow d p x x).pts q)).1 (Int.le_refl _)
      refine ⟨this.1, fun i h2 h3 => ?_⟩
      have := this.2 i h2 (by rw [hl]; exact h3)
      rw [(setFlow_get d p x x i hp).1, if_neg (by omega)] at this
      exact this
  have e2 : hiPre (setFlow d p x x).pts (q + 1) = min x (hiPre d.pts (q + 1)) := by
    refine Int.le_antisymm ?_ ?_
    · have h4 := (hiPre_all (setFlow d p x x).pts (q + 1) (by rw [hl]; omega) (hiPre (setFlow d p x x).pts (q + 1))).1 (Int.le_refl _)
      have h5 := h4.2 p (by omega)
      rw [(setFlow_get d p x x p hp).2, if_pos rfl] at h5
      have h6 := (hiPre_all d.pts (q + 1) (by omega) (hiPre (setFlow d p x x).pts (q + 1))).2 ⟨h4.1, fun i hi => by
        by_cases e : i = p
        · subst e; have := l3.2 i (by omega); omega
        · have := h4.2 i hi
          rw [(setFlow_get d p x x i hp).2, if_neg e] at this
          exact this⟩
      omega
    · have h4 := (hiPre_all d.pts (q + 1) (by omega) (hiPre d.pts (q + 1))).1 (Int.le_refl _)
      rw [hiPre_all _ _ (by rw [hl]; omega)]
      refine ⟨by omega, fun i hi => ?_⟩
      rw [(setFlow_get d p x x i hp).2]
      split
      · omega
      · have := h4.2 i hi; omega
  rw [e1, e2]
theorem flow_self {d : DLine} (hv : valid d = true) (hc : calm d.pts) (p : Nat) (hp : p < d.pts.length) (x : Int) (h0 : loSuf d.pts p ≤ x) (h1 : x ≤ hiPre d.pts (p + 1)) :
    flowAt (setFlow d p x x) p = (x, x) := by
  have hpp := valid_pt hv p hp
  have l2 := ((loSuf_le d.pts p (by omega) x).1 h0)
  have l3 := ((hiPre_all d.pts (p + 1) (by omega) x).1 h1)
  have hl := (setFlow_len d p x x).1
  have hV := setFlow_valid hv p x x l2.1 (Int.le_refl _) l3.1
  have hC := (calm_setFlow hv hc p hp x (l2.2 p (Nat.le_refl _) hp) (l3.2 p (by omega))).2 ⟨h0, h1⟩
  have hf := calm_flow hV hC p (by rw [hl]; exact hp)
  have a1 := ((loSuf_le (setFlow d p x x).pts p (by rw [hl]; omega) (loSuf (setFlow d p x x).pts p)).1 (Int.le_refl _)).2 p (Nat.le_refl _) (by rw [hl]; exact hp)
  have a2 := ((hiPre_all (setFlow d p x x).pts (p + 1) (by rw [hl]; omega) (hiPre (setFlow d p x x).pts (p + 1))).1 (Int.le_refl _)).2 p (by omega)
  rw [(setFlow_get d p x x p hp).1, if_pos rfl] at a1
  rw [(setFlow_get d p x x p hp).2, if_pos rfl] at a2
  unfold flowAt
  rw [show loSuf (setFlow d p x x).pts p = x by omega, show hiPre (setFlow d p x x).pts (p + 1) = x by omega]
end Go.Proofs.Ytldcehhhndlhdaa
/- Walks of In and of the reference's IsTruth. -/
namespace Go.Proofs.Ytldcehhhndlhdaa
open Go.RowKit Go.Sort

theorem rwithin_b (n lo hi : Int) (W : World) : Calls Try.prog 27 #[I n, I lo, I hi] W fun e w' => e = .returned (.bool (inR n lo hi)) ∧ Below W.heap.size W w' :=
  (rwithin_any n lo hi W).mono fun _ _ h => ⟨h.1, by rw [h.2]; exact Below.refl _ _⟩
theorem okAt_eq {d : DLine} {l : List Int} (k : Nat) (h : k < l.length) (h' : k < d.pts.length) : okAt d l k = (inR l[k] d.pts[k].lo d.pts[k].hi && !(decide (0 < k) && decide (l.getD (k - 1) 0 < l[k]))) := by
  unfold okAt
  rw [show l.getD k 0 = l[k] by simp [List.getD, List.getElem?_eq_getElem h], show d.pts.getD k default = d.pts[k] by simp [List.getD, List.getElem?_eq_getElem h']]

set_option maxRecDepth 20000 in
set_option maxHeartbeats 2000000 in
theorem isTruth_any (v lv : Value) (d : DLine) (l : List Int) (w : World) (hv : LineAt w v d) (hl : Ints w lv l) (hlen : d.pts.length ≤ 1000) (hlen' : l.length ≤ 1000) :
    Calls Try.prog 9 #[v, lv] w fun e w' => e = .returned (.bool (truthB d l)) ∧ Below w.heap.size w w' := by
  obtain ⟨pv, ov, rfl, hp, ho⟩ := hv
  obtain ⟨A, c, rfl, hac, hcm, ha⟩ := hl.open_
  obtain ⟨A', c', rfl, hac', hcm', ha'⟩ := hp.open_
  have hb0 : ∀ x, Below w.heap.size w (w.alloc x) := fun x => (Below.refl _ _).alloc (Nat.le_refl _) _
  have HA := Lib.hid ha
  have HA' := Lib.hid ha'
  have B0 := Box2.new w (.slice A' d.pts.length c') ov 25
  clear hp ho ha ha' hl
  by_cases h1 : l.length = d.pts.length
  · have hl1 : ((l.length : Int) != (d.pts.length : Int)) = false := by simp; omega
    have HL := Lib.hid h1
    clear h1
    have HB0 := Lib.hid B0
    have HBW := Lib.hid (hb0 (.cells #[.slice A' d.pts.length c', ov] 25))
    go_enter Try.func9, Try.ntmps9
    obtain ⟨x0, x1, x2, x3⟩ := B0
    go_wp2_with fail
    go_loopw [5] (fun i wr => ∃ k : Nat, k ≤ l.length ∧ i = I k ∧ Hid (∀ j, j < k → okAt d l j = true) ∧ Hid (Box2 wr w.heap.size (.slice A' d.pts.length c') ov) ∧ Hid (Below w.heap.size w wr)) (fun i _ => l.length - (intOf i).toNat)
    case atStart => exact ⟨0, by omega, rfl, Lib.hid (fun _ h => absurd h (by omega)), HB0, HBW⟩
    case round =>
      clear x0 x1 x2 x3 HB0 HBW
      obtain ⟨k, hk, rfl, hj, HB, HW⟩ := hrel
      by_cases hlt : k < l.length
      · have hlt' : k < d.pts.length := by have := HL.out; omega
        obtain ⟨b, o, rfl, hbl, hcell⟩ := HA.out (by omega)
        obtain ⟨b', o', rfl, hbl', hcell'⟩ := HA'.out (by omega)
        have y0 := keep_cell HW.out (hcell k hlt)
        have y1 := keep_cell HW.out (hcell' k hlt').1
        have y2 := keep_cell HW.out (hcell' k hlt').2.1
        have q1 : (k : Int) < (l.length : Int) := by omega
        have q2 : (k : Int) < (d.pts.length : Int) := by omega
        have HOK := Lib.hid (okAt_eq k hlt hlt')
        have e0 := cell_regrown y0
        have e1 := cell_regrown y1
        have e2 := cell_regrown y2
        have e3 := cell_regrown HB.out.c0
        have c1 := ext_call (w := wr) fun W _ => rwithin_b l[k] d.pts[k].lo d.pts[k].hi W
        cases hin : inR l[k] d.pts[k].lo d.pts[k].hi
        · rw [hin] at c1
          have HT := Lib.hid (truth_not (d := d) k hlt (by rw [HOK.out, hin]; rfl))
          clear hcell hcell' y0 y1 y2 hin
          go_wp2_with fail
          refine wp_region_ext (by kernel_rfl) (by kernel_rfl) ?_
          repeat (first | go_big_quiet_step (exact c1 _ _) | quiet_step (exact c1 _ _))
          refine wpQuiet_nil ?_
          clear e0 e1 e2 e3 c1
          intro w1 hb1
          go_wp2_with fail
          go_ret
          exact ⟨by rw [HT.out]; rfl, bto HW.out hb1⟩
        · rw [hin] at c1
          by_cases hk0 : 0 < k
          · have y3 := keep_cell HW.out (hcell (k - 1) (by omega))
            have e4 := cell_regrown y3
            have i0 : IntKind.i64.wrap ((k : Int) - 1) = ((k - 1 : Nat) : Int) := by rw [IntWalk.i64_in _ (by omega)]; omega
            have i1 : ((k - 1 : Nat) : Int) < (l.length : Int) := by omega
            have i2 : (0 : Int) ≤ ((k - 1 : Nat) : Int) := by omega
            have i3 : (0 : Int) < (k : Int) := by omega
            by_cases hgt : l[k - 1] < l[k]
            · have HT := Lib.hid (truth_not (d := d) k hlt (by rw [HOK.out, hin]; simp [hk0, hgt, List.getD, List.getElem?_eq_getElem (show k - 1 < l.length by omega)]))
              clear hcell hcell' y0 y1 y2 y3 hin
              go_wp2_with fail
              refine wp_region_ext (by kernel_rfl) (by kernel_rfl) ?_
              repeat (first | go_big_quiet_step (exact c1 _ _) | quiet_step (exact c1 _ _))
              refine wpQuiet_nil ?_
              clear e0 e1 e2 e3 e4 c1 i0
              intro w1 hb1
              go_wp2_with fail
              go_ret
              exact ⟨by rw [HT.out]; rfl, bto HW.out hb1⟩
            · have HT := Lib.hid (show okAt d l k = true by rw [HOK.out, hin]; simp [hgt, List.getD, List.getElem?_eq_getElem (show k - 1 < l.length by omega)])
              clear hcell hcell' y0 y1 y2 y3 hin
              go_wp2_with fail
              refine wp_region_ext (by kernel_rfl) (by kernel_rfl) ?_
              repeat (first | go_big_quiet_step (exact c1 _ _) | quiet_step (exact c1 _ _))
              refine wpQuiet_nil ?_
              clear e0 e1 e2 e3 e4 c1 i0
              intro w1 hb1
              go_wp2_with fail
              go_roundw
              case rel => exact ⟨k + 1, by omega, by go_num, Lib.hid (fun j h => by
                by_cases e : j = k
                · subst e; exact HT.out
                · exact hj.out j (by omega)), Lib.hid (HB.out.keep hb1), Lib.hid (bto HW.out hb1)⟩
              case measure => first | (simp [intOf]; done) | (simp [intOf]; omega)
          · have i3 : ¬ (0 : Int) < (k : Int) := by omega
            have HT := Lib.hid (show okAt d l k = true by rw [HOK.out, hin]; simp [hk0])
            clear hcell hcell' y0 y1 y2 hin
            go_wp2_with fail
            refine wp_region_ext (by kernel_rfl) (by kernel_rfl) ?_
            repeat (first | go_big_quiet_step (exact c1 _ _) | quiet_step (exact c1 _ _))
            refine wpQuiet_nil ?_
            clear e0 e1 e2 e3 c1
            intro w1 hb1
            go_wp2_with fail
            go_roundw
            case rel => exact ⟨k + 1, by omega, by go_num, Lib.hid (fun j h => by
              by_cases e : j = k
              · subst e; exact HT.out
              · exact hj.out j (by omega)), Lib.hid (HB.out.keep hb1), Lib.hid (bto HW.out hb1)⟩
            case measure => first | (simp [intOf]; done) | (simp [intOf]; omega)
      · have HT := Lib.hid (truth_yes HL.out (fun i hi => hj.out i (by omega)))
        go_wp2_with fail
        go_ret
        exact ⟨by rw [HT.out]; rfl, HW.out⟩
  · have hl1 : ((l.length : Int) != (d.pts.length : Int)) = true := by simp; omega
    have HE := Lib.hid (show truthB d l = false by unfold truthB; simp [h1])
    clear h1
    obtain ⟨x0, x1, x2, x3⟩ := B0
    go_enter Try.func9, Try.ntmps9
    go_wp2_with fail
    go_ret
    exact ⟨by rw [HE.out]; rfl, hb0 _⟩
end Go.Proofs.Ytldcehhhndlhdaa
/- Walk of Freed. -/
namespace Go.Proofs.Ytldcehhhndlhdaa
open Go.RowKit Go.Sort

theorem own_ne {W : World} {B B' e e' s s' n n' : Nat} {v v' : Value} {xs xs' : List Value} (h : W.ownsRow B e s v n xs) (h' : W.ownsRow B' e' s' v' n' xs') (hne : e ≠ e') {g : Nat} (hg : v.ownBlock = some g) : v'.ownBlock ≠ some g := by
  intro hg'
  rcases h.2 with ⟨rfl, _⟩ | ⟨g1, cap, cur, rfl, _, hh, _⟩
  · cases hg
  · rcases h'.2 with ⟨rfl, _⟩ | ⟨g2, cap', cur', rfl, _, hh', _⟩
    · cases hg'
    · have e1 : g1 = g := by simpa [Value.ownBlock] using hg
      have e2 : g2 = g := by simpa [Value.ownBlock] using hg'
      rw [e1] at hh
      rw [e2] at hh'
      rw [hh] at hh'
      injection hh' with hh'
      injection hh' with _ ht
      exact hne ht
theorem own_setOther {W : World} {base e size n : Nat} {v : Value} {xs : List Value} (h : W.ownsRow base e size v n xs) (q : Addr) (u : Value) (hq : v.ownBlock ≠ some q.block) : (W.setCell q u).ownsRow base e size v n xs :=
  h.kept (row := some q.block) ⟨rfl, rfl, rfl, by simp, fun k _ hk => Below.heap_setCell _ _ _ k (fun e => hk (by rw [e]))⟩ (.inr hq)

/-- A line of the call's own, whose points lie in block g. -/
structure OwnAt (w : World) (base g cap : Nat) (ov : Value) (d : DLine) : Prop where
  pts : w.ownsRow base 39 3 (.slice (some ⟨g, 0, none⟩) d.pts.length cap) d.pts.length (ptCells d.pts)
  odds : w.ownsRow base 3 1 ov d.odds.length (d.odds.map I)
theorem OwnLine.at_ {w : World} {base : Nat} {v : Value} {d : DLine} (h : OwnLine w base v d) (hn : 0 < d.pts.length) : ∃ g cap A c, v = .agg #[.slice (some ⟨g, 0, none⟩) d.pts.length cap, .slice A d.odds.length c] ∧ base ≤ g ∧ g < w.heap.size ∧ OwnAt w base g cap (.slice A d.odds.length c) d := by
  obtain ⟨pv, ov, rfl, hp, ho⟩ := h
  obtain ⟨g, cap, rfl, h1, h2⟩ := own_shape_pos hp hn
  obtain ⟨A, c, rfl⟩ := own_shape ho
  exact ⟨g, cap, A, c, rfl, h1, h2, hp, ho⟩
theorem OwnAt.line {w : World} {base g cap : Nat} {ov : Value} {d : DLine} (h : OwnAt w base g cap ov d) : OwnLine w base (.agg #[.slice (some ⟨g, 0, none⟩) d.pts.length cap, ov]) d := ⟨_, _, rfl, h.pts, h.odds⟩
theorem OwnAt.below {w w' : World} {base g cap : Nat} {ov : Value} {d : DLine} (h : OwnAt w base g cap ov d) (hb : Below w.heap.size w w') : OwnAt w' base g cap ov d := ⟨own_below h.pts hb, own_below h.odds hb⟩
theorem OwnAt.other {w : World} {base g cap : Nat} {ov : Value} {d : DLine} (h : OwnAt w base g cap ov d) (q : Addr) (u : Value) (hq : q.block < base) : OwnAt (w.setCell q u) base g cap ov d := ⟨own_setCell h.pts q u hq, own_setCell h.odds q u hq⟩
theorem OwnAt.cost {w : World} {base g cap : Nat} {ov : Value} {d : DLine} (h : OwnAt w base g cap ov d) (p : Nat) (c : Int) (hp : p < d.pts.length) : OwnAt (w.setCell ⟨g, p * 3 + 2, none⟩ (I c)) base g cap ov (setCost d p c) := by
  refine ⟨?_, ?_⟩
  · have := own_setCost h.pts p c hp
    simpa [setCost] using this
  · exact own_setOther h.odds _ _ (own_ne h.pts h.odds (by decide) rfl)
theorem OwnAt.cell {w : World} {base g cap : Nat} {ov : Value} {d : DLine} (h : OwnAt w base g cap ov d) (p : Nat) (hp : p < d.pts.length) : w.cell? ⟨g, p * 3 + 2, none⟩ = some (I d.pts[p].cost) ∧ w.frozen? ⟨g, p * 3 + 2, none⟩ = false := by
  refine ⟨?_, h.pts.frozenAt _⟩
  rw [h.pts.cellAt (p * 3 + 2) (by omega)]
  exact (ptCells_at _ _ hp).2.2

end Go.Proofs.Ytldcehhhndlhdaa
