/- Layer 1: the spans of the reference, and that the closed bounds say the same. No program here. -/
import Derived.Test.YtplbaijdnpfdgaaPlain2
namespace Go.Proofs.Ytplbaijdnpfdgaa
structure Sp where
  low : Int
  high : Int
  deriving DecidableEq, Inhabited
def cutS (a b : Sp) : Sp := ⟨max a.low b.low, min a.high b.high⟩
def spAt (l : List Sp) (i : Nat) : Sp := l.getD i ⟨0, 0⟩
def sndS (l : List Sp) (s : Snd) : List Sp := l.set s.well.toNat (cutS (spAt l s.well.toNat) ⟨s.low, s.high⟩)
def span0 (t : Twn) : List Sp := t.snd.foldl sndS (List.replicate t.wells.toNat ⟨0, 99⟩)
def slpS1 (l : List Sp) (s : Slp) : List Sp := l.set s.b.toNat (cutS (spAt l s.b.toNat) ⟨(spAt l s.a.toNat).low + s.low, (spAt l s.a.toNat).high + s.high⟩)
def slpS (l : List Sp) (s : Slp) : List Sp := (slpS1 l s).set s.a.toNat (cutS (spAt l s.a.toNat) ⟨(spAt l s.b.toNat).low - s.high, (spAt l s.b.toNat).high - s.low⟩)
def slpC (l : List Sp) (s : Slp) : Bool := decide (spAt (slpS l s) s.a.toNat ≠ spAt l s.a.toNat) || decide (spAt (slpS l s) s.b.toNat ≠ spAt l s.b.toNat)
def stepS (p : List Sp × Bool) (s : Slp) : List Sp × Bool := (slpS p.1 s, p.2 || slpC p.1 s)
def roundS (t : Twn) (l : List Sp) : List Sp × Bool := t.slp.foldl stepS (l, false)
def emptyS (l : List Sp) : Bool := l.any fun s => decide (s.high < s.low)
def spansF (t : Twn) : Nat → List Sp → Option (List Sp)
  | 0, _ => none
  | f + 1, l => if emptyS l then none else if (roundS t l).2 then spansF t f (roundS t l).1 else some (roundS t l).1
def spansR (t : Twn) : Option (List Sp) := spansF t 1000 (span0 t)

section
theorem spAt_len (l : List Sp) (i : Nat) (h : i < l.length) : spAt l i = l[i] := by simp [spAt, List.getElem?_eq_getElem h]
theorem spAt_set (l : List Sp) (i j : Nat) (v : Sp) (h : i < l.length) : spAt (l.set i v) j = if j = i then v else spAt l j := by
  unfold spAt
  simp only [List.getD_eq_getElem?_getD, List.getElem?_set]
  by_cases e : i = j
  · subst e; simp [h]
  · rw [if_neg e, if_neg (fun x => e x.symm)]
/-- Spans hold a truth. -/
def Has (l : List Sp) (x : Nat → Int) : Prop := ∀ w, w < l.length → (spAt l w).low ≤ x w ∧ x w ≤ (spAt l w).high
theorem sndS_len (l : List Sp) (s : Snd) : (sndS l s).length = l.length := by simp [sndS]
theorem sndS_has {l : List Sp} {s : Snd} {x : Nat → Int} (h : s.well.toNat < l.length) : Has (sndS l s) x ↔ Has l x ∧ s.low ≤ x s.well.toNat ∧ x s.well.toNat ≤ s.high := by
  constructor
  · intro k
    have k0 := k s.well.toNat (by rw [sndS_len]; exact h)
    rw [sndS, spAt_set _ _ _ _ h, if_pos rfl] at k0
    simp only [cutS] at k0
    refine ⟨fun w hw => ?_, by omega⟩
    have k1 := k w (by rw [sndS_len]; exact hw)
    rw [sndS, spAt_set _ _ _ _ h] at k1
    split at k1
    · rename_i e; subst e; omega
    · exact k1
  · rintro ⟨k, a, b⟩ w hw
    rw [sndS_len] at hw
    rw [sndS, spAt_set _ _ _ _ h]
    have k1 := k w hw
    split
    · rename_i e; subst e; simp only [cutS]; omega
    · exact k1
theorem sndsS_has {x : Nat → Int} : ∀ (ss : List Snd) (l : List Sp), (∀ s ∈ ss, s.well.toNat < l.length) → (ss.foldl sndS l).length = l.length ∧ (Has (ss.foldl sndS l) x ↔ Has l x ∧ ∀ s ∈ ss, s.low ≤ x s.well.toNat ∧ x s.well.toNat ≤ s.high)
  | [], l, _ => ⟨rfl, by simp⟩
  | s :: ss, l, h => by
    have hs := h s (by simp)
    obtain ⟨h1, h2⟩ := sndsS_has (x := x) ss (sndS l s) (fun u hu => by rw [sndS_len]; exact h u (by simp [hu]))
    refine ⟨by rw [List.foldl_cons, h1, sndS_len], ?_⟩
    rw [List.foldl_cons, h2, sndS_has hs]
    simp only [List.mem_cons, forall_eq_or_imp]
    exact ⟨fun ⟨⟨p, q⟩, r⟩ => ⟨p, q, r⟩, fun ⟨p, q, r⟩ => ⟨⟨p, q⟩, r⟩⟩
theorem Vl.sndL {t : Twn} (hv : Vl t) {n : Nat} (hn : n = t.wells.toNat) : ∀ s ∈ t.snd, s.well.toNat < n := fun s hs => by have := hv.snd s hs; omega
theorem span0_len {t : Twn} (hv : Vl t) : (span0 t).length = t.wells.toNat := by
  rw [span0, (sndsS_has (x := fun _ => 0) t.snd _ (by rw [List.length_replicate]; exact hv.sndL rfl)).1, List.length_replicate]
theorem span0_has {t : Twn} (hv : Vl t) {x : Nat → Int} : Has (span0 t) x ↔ (∀ w : Nat, (w : Int) < t.wells → 0 ≤ x w ∧ x w ≤ 99) ∧ ∀ s ∈ t.snd, s.low ≤ x s.well.toNat ∧ x s.well.toNat ≤ s.high := by
  have h0 := hv.w0
  rw [span0, (sndsS_has (x := x) t.snd _ (by rw [List.length_replicate]; exact hv.sndL rfl)).2]
  have e : Has (List.replicate t.wells.toNat ⟨0, 99⟩) x ↔ ∀ w : Nat, (w : Int) < t.wells → 0 ≤ x w ∧ x w ≤ 99 := by
    constructor
    · intro h w hw
      have := h w (by rw [List.length_replicate]; omega)
      rw [spAt_len _ _ (by rw [List.length_replicate]; omega)] at this
      simpa using this
    · intro h w hw
      rw [List.length_replicate] at hw
      rw [spAt_len _ _ (by rw [List.length_replicate]; omega)]
      simpa using h w (by omega)
  rw [e]
theorem slpS1_len (l : List Sp) (s : Slp) : (slpS1 l s).length = l.length := by simp [slpS1]
theorem slpS_len (l : List Sp) (s : Slp) : (slpS l s).length = l.length := by simp [slpS, slpS1]
theorem slpS_at {l : List Sp} {s : Slp} (ha : s.a.toNat < l.length) (hb : s.b.toNat < l.length) (w : Nat) :
    spAt (slpS l s) w = if w = s.a.toNat then cutS (spAt l s.a.toNat) ⟨(spAt l s.b.toNat).low - s.high, (spAt l s.b.toNat).high - s.low⟩ else if w = s.b.toNat then cutS (spAt l s.b.toNat) ⟨(spAt l s.a.toNat).low + s.low, (spAt l s.a.toNat).high + s.high⟩ else spAt l w := by
  rw [slpS, spAt_set _ _ _ _ (by rw [slpS1_len]; exact ha), slpS1, spAt_set _ _ _ _ hb]
theorem slpS_has {l : List Sp} {s : Slp} {x : Nat → Int} (ha : s.a.toNat < l.length) (hb : s.b.toNat < l.length) (h : Has l x) (h1 : s.low ≤ x s.b.toNat - x s.a.toNat ∧ x s.b.toNat - x s.a.toNat ≤ s.high) : Has (slpS l s) x := by
  intro w hw
  rw [slpS_len] at hw
  rw [slpS_at ha hb]
  have k := h w hw
  have ka := h _ ha
  have kb := h _ hb
  split
  · rename_i e; subst e; simp only [cutS]; omega
  · split
    · rename_i e; subst e; simp only [cutS]; omega
    · exact k
/-- Nothing is wider behind a step; and if nothing is said to have changed, nothing has. -/
structure Nar (l l' : List Sp) : Prop where
  len : l'.length = l.length
  low : ∀ w, (spAt l w).low ≤ (spAt l' w).low
  high : ∀ w, (spAt l' w).high ≤ (spAt l w).high
theorem Nar.refl (l : List Sp) : Nar l l := ⟨rfl, fun _ => Int.le_refl _, fun _ => Int.le_refl _⟩
theorem Nar.trans {a b c : List Sp} (h : Nar a b) (k : Nar b c) : Nar a c := ⟨k.len.trans h.len, fun w => Int.le_trans (h.low w) (k.low w), fun w => Int.le_trans (k.high w) (h.high w)⟩
theorem slpS_nar {l : List Sp} {s : Slp} (ha : s.a.toNat < l.length) (hb : s.b.toNat < l.length) : Nar l (slpS l s) := by
  refine ⟨slpS_len _ _, fun w => ?_, fun w => ?_⟩ <;> rw [slpS_at ha hb] <;> split
  · rename_i e; subst e; simp only [cutS]; omega
  · split
    · rename_i e; subst e; simp only [cutS]; omega
    · exact Int.le_refl _
  · rename_i e; subst e; simp only [cutS]; omega
  · split
    · rename_i e; subst e; simp only [cutS]; omega
    · exact Int.le_refl _
theorem list_ext_spAt {l l' : List Sp} (hl : l'.length = l.length) (h : ∀ w, w < l.length → spAt l' w = spAt l w) : l' = l := by
  apply List.ext_getElem hl
  intro i h1 h2
  have := h i h2
  rwa [spAt_len _ _ h1, spAt_len _ _ h2] at this
theorem slpC_false {l : List Sp} {s : Slp} (ha : s.a.toNat < l.length) (hb : s.b.toNat < l.length) (h : slpC l s = false) : slpS l s = l := by
  simp only [slpC, Bool.or_eq_false_iff, decide_eq_false_iff_not, Decidable.not_not] at h
  refine list_ext_spAt (slpS_len _ _) fun w _ => ?_
  by_cases e1 : w = s.a.toNat
  · subst e1; exact h.1
  · by_cases e2 : w = s.b.toNat
    · subst e2; exact h.2
    · rw [slpS_at ha hb, if_neg e1, if_neg e2]
/-- What is narrower by a number, together. -/
def wid (l : List Sp) : Int := (l.map fun s => s.high - s.low).sum
theorem wid_set : ∀ (l : List Sp) (i : Nat) (v : Sp) (h : i < l.length), wid (l.set i v) = wid l - (l[i].high - l[i].low) + (v.high - v.low)
  | s :: l, 0, v, _ => by simp [wid]; omega
  | s :: l, i + 1, v, h => by
    have := wid_set l i v (by simpa using h)
    simp only [wid, List.set_cons_succ, List.map_cons, List.sum_cons, List.getElem_cons_succ] at this ⊢
    omega
theorem Nar.wid_le {l l' : List Sp} (h : Nar l l') : wid l' ≤ wid l := by
  obtain ⟨h1, h2, h3⟩ := h
  induction l generalizing l' with
  | nil => rw [List.length_nil] at h1; rw [List.eq_nil_of_length_eq_zero h1]; exact Int.le_refl _
  | cons s l ih =>
    cases l' with
    | nil => simp at h1
    | cons s' l' =>
      have a := h2 0
      have b := h3 0
      have := ih (l' := l') (by simpa using h1) (fun w => by have := h2 (w + 1); simpa [spAt] using this) (fun w => by have := h3 (w + 1); simpa [spAt] using this)
      simp only [wid, spAt, List.map_cons, List.sum_cons, List.getD_cons_zero] at this a b ⊢
      omega
theorem Nar.wid_lt {l l' : List Sp} (h : Nar l l') {i : Nat} (hi : i < l.length) (hne : spAt l' i ≠ spAt l i) : wid l' < wid l := by
  obtain ⟨h1, h2, h3⟩ := h
  induction l generalizing l' i with
  | nil => simp at hi
  | cons s l ih =>
    cases l' with
    | nil => simp at h1
    | cons s' l' =>
      have a := h2 0
      have b := h3 0
      have hn : Nar l l' := ⟨by simpa using h1, fun w => by have := h2 (w + 1); simpa [spAt] using this, fun w => by have := h3 (w + 1); simpa [spAt] using this⟩
      simp only [spAt, List.getD_cons_zero] at a b
      cases i with
      | zero =>
        have := hn.wid_le
        have : s' ≠ s := by simpa [spAt] using hne
        have : s'.low ≠ s.low ∨ s'.high ≠ s.high := by
          obtain ⟨p, q⟩ := s'
          obtain ⟨p', q'⟩ := s
          simp only [ne_eq, Sp.mk.injEq] at this ⊢
          omega
        simp only [wid, List.map_cons, List.sum_cons] at *
        omega
      | succ i =>
        have := ih (l' := l') (i := i) (by simpa using hi) (by simpa [spAt] using hne) hn.len hn.low hn.high
        simp only [wid, List.map_cons, List.sum_cons] at *
        omega
theorem slpC_true {l : List Sp} {s : Slp} (ha : s.a.toNat < l.length) (hb : s.b.toNat < l.length) (h : slpC l s = true) : wid (slpS l s) < wid l := by
  simp only [slpC, Bool.or_eq_true, decide_eq_true_eq] at h
  rcases h with h | h
  · exact (slpS_nar ha hb).wid_lt ha h
  · exact (slpS_nar ha hb).wid_lt hb h
theorem steps_nar : ∀ (ss : List Slp) (l : List Sp) (c : Bool), (∀ s ∈ ss, s.a.toNat < l.length ∧ s.b.toNat < l.length) → Nar l (ss.foldl stepS (l, c)).1 ∧ ((ss.foldl stepS (l, c)).2 = true → c = true ∨ wid (ss.foldl stepS (l, c)).1 < wid l) ∧ ((ss.foldl stepS (l, c)).2 = false → c = false ∧ (ss.foldl stepS (l, c)).1 = l ∧ ∀ s ∈ ss, slpS l s = l)
  | [], l, c, _ => ⟨Nar.refl l, fun h => .inl h, fun h => ⟨h, rfl, by simp⟩⟩
  | s :: ss, l, c, h => by
    obtain ⟨ha, hb⟩ := h s (by simp)
    have hn := slpS_nar ha hb
    obtain ⟨h1, h2, h3⟩ := steps_nar ss (slpS l s) (c || slpC l s) (fun u hu => by rw [slpS_len]; exact h u (by simp [hu]))
    rw [List.foldl_cons, show stepS (l, c) s = (slpS l s, c || slpC l s) from rfl]
    refine ⟨hn.trans h1, fun hc => ?_, fun hc => ?_⟩
    · rcases h2 hc with h4 | h4
      · rcases Bool.or_eq_true _ _ ▸ h4 with h5 | h5
        · exact .inl h5
        · exact .inr (Int.lt_of_le_of_lt h1.wid_le (slpC_true ha hb h5))
      · exact .inr (Int.lt_of_lt_of_le h4 hn.wid_le)
    · obtain ⟨h4, h5, h6⟩ := h3 hc
      rw [Bool.or_eq_false_iff] at h4
      have e := slpC_false ha hb h4.2
      refine ⟨h4.1, h5.trans e, fun u hu => ?_⟩
      rcases List.mem_cons.1 hu with rfl | hu
      · exact e
      · have := h6 u hu
        rwa [e] at this
theorem steps_has {x : Nat → Int} : ∀ (ss : List Slp) (l : List Sp) (c : Bool), (∀ s ∈ ss, s.a.toNat < l.length ∧ s.b.toNat < l.length) → (∀ s ∈ ss, s.low ≤ x s.b.toNat - x s.a.toNat ∧ x s.b.toNat - x s.a.toNat ≤ s.high) → Has l x → Has (ss.foldl stepS (l, c)).1 x
  | [], l, c, _, _, h => h
  | s :: ss, l, c, h, k, hx => by
    obtain ⟨ha, hb⟩ := h s (by simp)
    exact steps_has ss (slpS l s) (c || slpC l s) (fun u hu => by rw [slpS_len]; exact h u (by simp [hu])) (fun u hu => k u (by simp [hu])) (slpS_has ha hb hx (k s (by simp)))
theorem Vl.slpL {t : Twn} (hv : Vl t) {l : List Sp} (hn : l.length = t.wells.toNat) : ∀ s ∈ t.slp, s.a.toNat < l.length ∧ s.b.toNat < l.length := fun s hs => by have := hv.slp s hs; omega
theorem wid_nonneg {l : List Sp} (h : emptyS l = false) : 0 ≤ wid l := by
  induction l with
  | nil => exact Int.le_refl _
  | cons s l ih =>
    simp only [emptyS, List.any_cons, Bool.or_eq_false_iff, decide_eq_false_iff_not] at h
    have := ih h.2
    simp only [wid, List.map_cons, List.sum_cons] at this ⊢
    omega
theorem emptyS_iff {l : List Sp} : emptyS l = false ↔ ∀ w, w < l.length → (spAt l w).low ≤ (spAt l w).high := by
  simp only [emptyS, List.any_eq_false, decide_eq_true_eq, Int.not_lt]
  constructor
  · intro h w hw
    rw [spAt_len _ _ hw]
    exact h _ (List.getElem_mem hw)
  · intro h s hs
    obtain ⟨i, hi, rfl⟩ := List.getElem_of_mem hs
    have := h i hi
    rwa [spAt_len _ _ hi] at this
/-- What the loop of the reference keeps. -/
structure Inv (t : Twn) (l : List Sp) : Prop where
  len : l.length = t.wells.toNat
  nar : Nar (span0 t) l
  has : ∀ x, Tr t x → Has l x
theorem Inv.start {t : Twn} (hv : Vl t) : Inv t (span0 t) := ⟨span0_len hv, Nar.refl _, fun _ hx => (span0_has hv).2 ⟨hx.own, hx.snd⟩⟩
theorem Inv.round {t : Twn} (hv : Vl t) {l : List Sp} (h : Inv t l) : Inv t (roundS t l).1 := by
  have hn := (steps_nar t.slp l false (hv.slpL h.len)).1
  exact ⟨hn.len.trans h.len, h.nar.trans hn, fun x hx => steps_has t.slp l false (hv.slpL h.len) hx.slp (h.has x hx)⟩
theorem Inv.lt {t : Twn} (hv : Vl t) {l : List Sp} (h : Inv t l) (hc : (roundS t l).2 = true) : wid (roundS t l).1 < wid l := by
  rcases (steps_nar t.slp l false (hv.slpL h.len)).2.1 hc with h | h
  · simp at h
  · exact h
theorem Inv.stay {t : Twn} (hv : Vl t) {l : List Sp} (h : Inv t l) (hc : (roundS t l).2 = false) : (roundS t l).1 = l ∧ ∀ s ∈ t.slp, slpS l s = l :=
  ((steps_nar t.slp l false (hv.slpL h.len)).2.2 hc).2
theorem span0_bd {t : Twn} (hv : Vl t) (w : Nat) (hw : w < (span0 t).length) : 0 ≤ (spAt (span0 t) w).low ∧ (spAt (span0 t) w).high ≤ 99 := by
  have key : ∀ (ss : List Snd) (l : List Sp), (∀ s ∈ ss, s.well.toNat < l.length) → (∀ w, w < l.length → 0 ≤ (spAt l w).low ∧ (spAt l w).high ≤ 99) → ∀ w, w < l.length → 0 ≤ (spAt (ss.foldl sndS l) w).low ∧ (spAt (ss.foldl sndS l) w).high ≤ 99 := by
    intro ss
    induction ss with
    | nil => intro l _ h; exact h
    | cons s ss ih =>
      intro l hs h w hw
      refine ih (sndS l s) (fun u hu => by rw [sndS_len]; exact hs u (by simp [hu])) (fun w hw => ?_) w (by rw [sndS_len]; exact hw)
      rw [sndS_len] at hw
      rw [sndS, spAt_set _ _ _ _ (hs s (by simp))]
      have := h w hw
      split
      · rename_i e; subst e; simp only [cutS]; omega
      · exact this
  refine key t.snd _ (by rw [List.length_replicate]; exact hv.sndL rfl) (fun w hw => ?_) w (by rw [List.length_replicate, ← span0_len hv]; exact hw)
  rw [spAt_len _ _ hw]
  simp
theorem Inv.bd {t : Twn} (hv : Vl t) {l : List Sp} (h : Inv t l) (w : Nat) (hw : w < l.length) : 0 ≤ (spAt l w).low ∧ (spAt l w).high ≤ 99 := by
  have := span0_bd hv w (by rw [← h.nar.len]; exact hw)
  have := h.nar.low w
  have := h.nar.high w
  omega
theorem wid_le_all : ∀ (l : List Sp), (∀ w, w < l.length → 0 ≤ (spAt l w).low ∧ (spAt l w).high ≤ 99) → wid l ≤ 99 * l.length
  | [], _ => by simp [wid]
  | s :: l, h => by
    have := wid_le_all l (fun w hw => by have := h (w + 1) (by simp; omega); simpa [spAt] using this)
    have h0 := h 0 (by simp)
    simp only [spAt, List.getD_cons_zero] at h0
    simp only [wid, List.map_cons, List.sum_cons, List.length_cons] at this ⊢
    omega
theorem Inv.wid {t : Twn} (hv : Vl t) {l : List Sp} (h : Inv t l) : wid l ≤ 594 := by
  have := wid_le_all l (h.bd hv)
  have := h.len
  have := hv.w6
  omega
/-- The spans of a town say what can be. -/
structure Exact (t : Twn) (l : List Sp) : Prop where
  len : l.length = t.wells.toNat
  low : Tr t fun w => (spAt l w).low
  high : Tr t fun w => (spAt l w).high
  all : ∀ x, Tr t x → Has l x
theorem Inv.exact {t : Twn} (hv : Vl t) {l : List Sp} (h : Inv t l) (he : emptyS l = false) (hc : (roundS t l).2 = false) : Exact t l := by
  have hs := (h.stay hv hc).2
  have hne := emptyS_iff.1 he
  have h0 := span0_has hv (x := fun w => (spAt l w).low)
  have h1 := span0_has hv (x := fun w => (spAt l w).high)
  have k0 : Has (span0 t) fun w => (spAt l w).low := fun w hw => by
    have := h.nar.low w
    have := h.nar.high w
    have := hne w (by rw [h.nar.len]; exact hw)
    show _ ≤ (spAt l w).low ∧ (spAt l w).low ≤ _
    omega
  have k1 : Has (span0 t) fun w => (spAt l w).high := fun w hw => by
    have := h.nar.low w
    have := h.nar.high w
    have := hne w (by rw [h.nar.len]; exact hw)
    show _ ≤ (spAt l w).high ∧ (spAt l w).high ≤ _
    omega
  have k0 := h0.1 k0
  have k1 := h1.1 k1
  refine ⟨h.len, ⟨k0.1, k0.2, fun s hs' => ?_⟩, ⟨k1.1, k1.2, fun s hs' => ?_⟩, h.has⟩
  all_goals
    obtain ⟨ha, hb⟩ := hv.slpL h.len s hs'
    have hab := (hv.slp s hs').2.2.2.2.1
    have ha0 := (hv.slp s hs').1
    have hb0 := (hv.slp s hs').2.2.1
    have e := hs s hs'
    have ea := slpS_at ha hb s.a.toNat
    have eb := slpS_at ha hb s.b.toNat
    rw [e, if_pos rfl] at ea
    rw [e, if_neg (by omega), if_pos rfl] at eb
    have na := hne _ ha
    have nb := hne _ hb
    have ea1 := congrArg Sp.low ea
    have ea2 := congrArg Sp.high ea
    have eb1 := congrArg Sp.low eb
    have eb2 := congrArg Sp.high eb
    simp only [cutS] at ea1 ea2 eb1 eb2
    show _ ≤ _ - _ ∧ _ - _ ≤ _
    omega
theorem spansF_exact {t : Twn} (hv : Vl t) : ∀ (f : Nat) (l : List Sp), Inv t l → (wid l + 1).toNat < f → (∃ l', spansF t f l = some l' ∧ Exact t l') ∨ (spansF t f l = none ∧ ¬ ∃ x, Tr t x)
  | 0, _, _, h => by omega
  | f + 1, l, h, hf => by
    by_cases he : emptyS l = true
    · refine .inr ⟨by rw [spansF, if_pos he], fun ⟨x, hx⟩ => ?_⟩
      have : emptyS l = false := emptyS_iff.2 fun w hw => by have := h.has x hx w hw; omega
      rw [he] at this
      cases this
    · have he' : emptyS l = false := by simpa using he
      by_cases hc : (roundS t l).2 = true
      · have hlt := h.lt hv hc
        have hnn := wid_nonneg he'
        have := spansF_exact hv f _ (h.round hv) (by omega)
        rw [spansF, if_neg he, if_pos hc]
        exact this
      · have hc' : (roundS t l).2 = false := by simpa using hc
        refine .inl ⟨l, by rw [spansF, if_neg he, if_neg hc, (h.stay hv hc').1], h.exact hv he' hc'⟩
theorem spansR_cases {t : Twn} (hv : Vl t) : (∃ l, spansR t = some l ∧ Exact t l) ∨ (spansR t = none ∧ ¬ ∃ x, Tr t x) :=
  spansF_exact hv 1000 _ (Inv.start hv) (by have := (Inv.start hv).wid hv; omega)
theorem spansR_some {t : Twn} (hv : Vl t) {l : List Sp} (h : spansR t = some l) : Exact t l := by
  rcases spansR_cases hv with ⟨l', h1, h2⟩ | ⟨h1, _⟩
  · rw [h] at h1; injection h1 with h1; rw [h1]; exact h2
  · rw [h] at h1; cases h1
theorem spansR_none {t : Twn} (hv : Vl t) (h : spansR t = none) : ¬ ∃ x, Tr t x := by
  rcases spansR_cases hv with ⟨l', h1, h2⟩ | ⟨_, h1⟩
  · rw [h] at h1; cases h1
  · exact h1
theorem spansR_isSome {t : Twn} (hv : Vl t) : (spansR t).isSome = true ↔ ∃ x, Tr t x := by
  rcases spansR_cases hv with ⟨l', h1, h2⟩ | ⟨h1, h2⟩
  · rw [h1]; exact ⟨fun _ => ⟨_, h2.low⟩, fun _ => rfl⟩
  · rw [h1]; exact ⟨fun h => by simp at h, fun h => absurd h h2⟩
/-- The closed bounds and the spans are the same. -/
theorem says_spans {t : Twn} (hv : Vl t) {ms : List Int} (hs : Says t ms) : diagOk (closeM ms) = (spansR t).isSome := by
  rw [Bool.eq_iff_iff, (says_ok hv hs).1, spansR_isSome hv]
theorem tight_low {t : Twn} (hv : Vl t) {ms : List Int} {l : List Sp} (ht : Tight t ms) (he : Exact t l) {w : Nat} (hw : (w : Int) < t.wells) : -at_ ms w 6 = (spAt l w).low ∧ at_ ms 6 w = (spAt l w).high := by
  have h6 := hv.w6
  have hw' : act t.wells w := .inl hw
  have h6' : act t.wells 6 := .inr rfl
  have hlen := he.len
  have e6 : ∀ x : Nat → Int, lift x 6 = 0 := fun x => rfl
  have ew : ∀ x : Nat → Int, lift x w = x w := fun x => by simp [lift, show w ≠ 6 by omega]
  obtain ⟨x1, hx1, k1⟩ := ht.one 6 w h6' hw'
  obtain ⟨x2, hx2, k2⟩ := ht.one w 6 hw' h6'
  have a1 := he.all x1 hx1 w (by omega)
  have a2 := he.all x2 hx2 w (by omega)
  have b1 := ht.all _ he.low w 6 hw' h6'
  have b2 := ht.all _ he.high 6 w h6' hw'
  rw [e6, ew] at k1 k2 b1 b2
  omega
end
end Go.Proofs.Ytplbaijdnpfdgaa
