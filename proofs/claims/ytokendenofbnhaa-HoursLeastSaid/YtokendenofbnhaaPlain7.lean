/- What the answers mean: new rosters, the cheapest ones. No program here. -/
import Derived.Test.YtokendenofbnhaaPlain6
namespace Go.Proofs.Ytokendenofbnhaa
/-- Two rooms that say the same of each hour. -/
def Eqv (l l' : List Int) : Prop := ∀ h : Int, at_ l h = at_ l' h
theorem Eqv.dec {l l' : List Int} (h : Eqv l l') {i : Int} (hi : at_ l i ≠ 0) : Eqv (dec l i) (dec l' i) := by
  intro j
  have hi' : at_ l' i ≠ 0 := by rw [← h i]; exact hi
  have hl : ∀ m : List Int, at_ m i ≠ 0 → i.toNat < m.length := fun m hm => by
    apply Classical.byContradiction
    intro hn
    apply hm
    unfold at_
    rw [List.getD_eq_getElem?_getD, List.getElem?_eq_none (by omega)]
    rfl
  unfold Go.Proofs.Ytokendenofbnhaa.dec
  rw [at_set, at_set, h j, h i]
  by_cases hj : j.toNat = i.toNat
  · rw [if_pos ⟨hj, hl l hi⟩, if_pos ⟨hj, hl l' hi'⟩]
  · rw [if_neg (fun e => hj e.1), if_neg (fun e => hj e.1)]
theorem goodL_eqv : ∀ (ss : List Str) (left left' l : List Int), Eqv left left' → goodL ss left l = goodL ss left' l
  | [], _, _, [], _ => rfl
  | [], _, _, _ :: _, _ => rfl
  | _ :: _, _, _, [], _ => rfl
  | s :: ss, left, left', h :: hs, he => by
    simp only [goodL]
    rw [he h]
    by_cases h0 : at_ left' h = 0
    · simp [h0]
    · rw [goodL_eqv ss _ _ hs (he.dec (by rw [he h]; exact h0))]
theorem pad_eqv (l : List Int) : Eqv l (pad l) := by
  intro h
  unfold at_ pad
  rw [List.getD_eq_getElem?_getD, List.getD_eq_getElem?_getD]
  by_cases hl : h.toNat < l.length
  · rw [List.getElem?_append_left hl]
  · rw [List.getElem?_append_right (by omega), List.getElem?_eq_none (by omega), List.getElem?_replicate]
    split <;> rfl
theorem newB_pad (r : Ros) (l : List Int) : newB r l = goodL r.strs (pad r.room) l := goodL_eqv _ _ _ _ (pad_eqv _)
/-- There is one: it is real, and none is cheaper. -/
theorem best_real {w : Str → Int → Int} {r : Ros} (h : ROk r) (hb : 0 ≤ (bestR w r).2) :
    newB r (rosterP w r.strs (pad r.room)) = true ∧ mayL w r.strs (rosterP w r.strs (pad r.room)) = true ∧ sumW w r.strs (rosterP w r.strs (pad r.room)) = (bestR w r).1 ∧
    ∀ l, newB r l = true → mayL w r.strs l = true → (bestR w r).1 ≤ sumW w r.strs l := by
  have hs := best_stands w r.strs (pad r.room) (fromOk_of h)
  cases hm : firstMin (sumW w r.strs) (allL w r.strs (pad r.room)) with
  | none => rw [hm] at hs; unfold bestR at hb; omega
  | some l =>
    rw [hm] at hs
    obtain ⟨h1, rfl, h3⟩ := hs
    have hmem := mem_allL.1 (firstMin_mem hm)
    refine ⟨by rw [newB_pad]; exact hmem.1, hmem.2, h3, fun l' hl' hm' => ?_⟩
    have := firstMin_le hm l' (mem_allL.2 ⟨by rw [← newB_pad]; exact hl', hm'⟩)
    unfold bestR
    omega
/-- There is none. -/
theorem best_no {w : Str → Int → Int} {r : Ros} (h : ROk r) (hb : (bestR w r).2 < 0) {l : List Int} (hl : newB r l = true) : mayL w r.strs l = false := by
  have h1 := (bestP_none (fromOk_of h)).1 hb
  cases hm : mayL w r.strs l
  · rfl
  · have : l ∈ allL w r.strs (pad r.room) := mem_allL.2 ⟨by rw [← newB_pad]; exact hl, hm⟩
    rw [h1] at this
    simp at this
theorem ROk.strs {r : Ros} (h : ROk r) : ∀ s ∈ r.strs, StrOk s := fun s hs => (h.so s hs).1
theorem steps_no {r : Ros} (h : ROk r) (hb : (bestR stepsI r).2 < 0) (l : List Int) : newB r l = false := by
  cases hl : newB r l
  · rfl
  · have := best_no h hb hl
    rw [mayL_steps h.strs] at this
    cases this
theorem once_iff {r : Ros} (h : ROk r) : (bestR onceI r).2 < 0 ↔ (bestR stepsI r).2 < 0 := by
  constructor
  · intro hb
    apply Classical.byContradiction
    intro hn
    have := best_no h hb (best_real h (w := stepsI) (by omega)).1
    rw [mayL_once] at this
    cases this
  · intro hb
    apply Classical.byContradiction
    intro hn
    have h1 := (best_real h (w := onceI) (by omega)).1
    rw [steps_no h hb] at h1
    cases h1
theorem farN_bd (r : Ros) : farN r ≤ 8 := by
  unfold farN
  cases hf : (List.range 9).find? (fun n : Nat => decide (0 ≤ (bestR (upToI (n : Int)) r).2)) with
  | none => simp
  | some k => have := List.mem_of_find?_eq_some hf; simp at this ⊢; omega
theorem askE_true {r : Ros} (h : ROk r) : askE r true = 0 := askE_zero.2 ⟨valid_iff.2 h, rfl⟩
/-- The three numbers, of a valid roster. -/
def someR (r : Ros) : Bool := decide (0 ≤ (bestR stepsI r).2)
theorem least_val {r : Ros} (h : ROk r) : leastR r = if someR r then ((bestR stepsI r).1, 0) else (0, 3) := by
  unfold leastR knownR someR
  rw [if_pos (askE_true h)]
  by_cases hb : (bestR stepsI r).2 < 0
  · rw [if_pos hb, if_neg (by simp; omega)]
  · rw [if_neg hb, if_pos (by simp; omega)]
theorem fewest_val {r : Ros} (h : ROk r) : fewestR r = if someR r then ((bestR onceI r).1, 0) else (0, 3) := by
  unfold fewestR knownR someR
  rw [if_pos (askE_true h)]
  have := once_iff h
  by_cases hb : (bestR stepsI r).2 < 0
  · rw [if_pos (this.2 hb), if_neg (by simp; omega)]
  · rw [if_neg (fun e => hb (this.1 e)), if_pos (by simp; omega)]
theorem far_val {r : Ros} (h : ROk r) : farR r = if someR r then ((farN r : Int), 0) else (0, 3) := by
  unfold farR
  rw [least_val h]
  cases someR r <;> simp
theorem steps_bd72 {s : Str} (hs : StrOk s) {x : Int} (h0 : s.frm ≤ x) (h1 : x ≤ s.to) : 0 ≤ stepsI s x ∧ stepsI s x ≤ 72 := by
  have hm := moveI_le7 hs h0 h1
  have hm0 := moveI_nonneg s x
  have := Int.mul_le_mul hm hs.cost1 hs.cost0 (by omega : (0 : Int) ≤ 8)
  exact ⟨Int.mul_nonneg hm0 hs.cost0, by unfold stepsI; omega⟩
theorem cost_bd {r : Ros} (h : ROk r) {l : List Int} (hl : newB r l = true) : 0 ≤ costL r.strs l ∧ costL r.strs l ≤ 432 := by
  have hi := InL.of_new hl
  have := sumW_bd (w := stepsI) (M := 72) (by omega) r.strs l (fun k h1 h2 => steps_bd72 (h.strs _ (List.getElem_mem h1)) (hi.inn k h1 h2).1 (hi.inn k h1 h2).2)
  have := h.sl
  unfold costL; omega
theorem least_real {r : Ros} (h : ROk r) (hs : someR r = true) : newB r (rosterP stepsI r.strs (pad r.room)) = true ∧ costL r.strs (rosterP stepsI r.strs (pad r.room)) = (bestR stepsI r).1 ∧ ∀ l, newB r l = true → (bestR stepsI r).1 ≤ costL r.strs l := by
  have hb := of_decide_eq_true hs
  obtain ⟨h1, _, h3, h4⟩ := best_real h hb
  exact ⟨h1, h3, fun l hl => h4 l hl (mayL_steps h.strs l)⟩
theorem some_of {r : Ros} (h : ROk r) {l : List Int} (hl : newB r l = true) : someR r = true := by
  unfold someR
  apply Classical.byContradiction
  intro hn
  have : (bestR stepsI r).2 < 0 := by simpa using hn
  rw [steps_no h this] at hl
  cases hl
/-- How many are moved. -/
def movedN (ss : List Str) (l : List Int) : Int := sumW onceI ss l
theorem fewest_real {r : Ros} (h : ROk r) (hs : someR r = true) : (∃ l, newB r l = true ∧ movedN r.strs l = (bestR onceI r).1) ∧ ∀ l, newB r l = true → (bestR onceI r).1 ≤ movedN r.strs l := by
  have hb : 0 ≤ (bestR onceI r).2 := by
    have := of_decide_eq_true hs
    have := once_iff h
    omega
  obtain ⟨h1, _, h3, h4⟩ := best_real h hb
  exact ⟨⟨_, h1, h3⟩, fun l hl => h4 l hl (mayL_once l)⟩
/-- Nobody is moved farther. -/
def nearL (n : Int) (ss : List Str) (l : List Int) : Prop := ∀ k (h1 : k < ss.length) (h2 : k < l.length), moveI ss[k] l[k] ≤ n
theorem mayL_near : ∀ {ss : List Str} {l : List Int} {n : Int}, (∀ s ∈ ss, StrOk s) → (mayL (upToI n) ss l = true ↔ nearL n ss l)
  | [], l, n, _ => by
    have : mayL (upToI n) [] l = true := by cases l <;> rfl
    simp [this, nearL]
  | s :: ss, [], n, _ => by
    have : mayL (upToI n) (s :: ss) [] = true := rfl
    simp [this, nearL]
  | s :: ss, h :: hs, n, hok => by
    have ih := mayL_near (ss := ss) (l := hs) (n := n) (fun s' hs' => hok s' (by simp [hs']))
    simp only [mayL, Bool.and_eq_true, decide_eq_true_eq, ih]
    have hu : 0 ≤ upToI n s h ↔ moveI s h ≤ n := by
      unfold upToI
      split
      · omega
      · have := Int.mul_nonneg (moveI_nonneg s h) (hok s (by simp)).cost0
        unfold stepsI; omega
    rw [hu]
    constructor
    · rintro ⟨h1, h2⟩ k hk1 hk2
      cases k with
      | zero => exact h1
      | succ k => exact h2 k (by simpa using hk1) (by simpa using hk2)
    · intro hn
      exact ⟨hn 0 (by simp) (by simp), fun k hk1 hk2 => hn (k + 1) (by simpa using hk1) (by simpa using hk2)⟩
theorem far_real {r : Ros} (h : ROk r) (hs : someR r = true) : (∃ l, newB r l = true ∧ nearL (farN r) r.strs l) ∧ ∀ l (n : Nat), newB r l = true → nearL n r.strs l → farN r ≤ n := by
  have hb := of_decide_eq_true hs
  obtain ⟨N, hN, hNb⟩ := far_ends h hb
  have key : ∃ k, (List.range 9).find? (fun n : Nat => decide (0 ≤ (bestR (upToI (n : Int)) r).2)) = some k := by
    cases hf : (List.range 9).find? (fun n : Nat => decide (0 ≤ (bestR (upToI (n : Int)) r).2)) with
    | none =>
      have := List.find?_eq_none.1 hf N (List.mem_range.2 hN)
      simp at this; omega
    | some k => exact ⟨k, rfl⟩
  obtain ⟨k, hk⟩ := key
  have hfk : farN r = k := by unfold farN; rw [hk]; rfl
  have hkb : 0 ≤ (bestR (upToI (k : Int)) r).2 := by have := List.find?_some hk; simpa using this
  rw [hfk]
  refine ⟨?_, fun l n hl hn => ?_⟩
  · obtain ⟨h1, h2, _⟩ := best_real h hkb
    exact ⟨_, h1, (mayL_near h.strs).1 h2⟩
  · apply Classical.byContradiction
    intro hlt
    have hn9 : n < 9 := by have := List.mem_of_find?_eq_some hk; simp at this; omega
    have hnb : 0 ≤ (bestR (upToI (n : Int)) r).2 := by
      apply Classical.byContradiction
      intro hno
      have := best_no h (w := upToI (n : Int)) (by omega) hl
      rw [(mayL_near h.strs).2 hn] at this
      cases this
    obtain ⟨_, as, bs, hab, hall⟩ := List.find?_eq_some_iff_append.1 hk
    have hmem : n ∈ as := by
      have hn' : n ∈ as ++ k :: bs := by rw [← hab]; exact List.mem_range.2 hn9
      rcases List.mem_append.1 hn' with h1 | h1
      · exact h1
      · exfalso
        have hp : (as ++ k :: bs).Pairwise (· < ·) := by rw [← hab]; exact List.pairwise_lt_range
        rcases List.mem_cons.1 h1 with h2 | h2
        · omega
        · have := (List.pairwise_cons.1 (List.pairwise_append.1 hp).2.1).1 n h2
          omega
    have := hall n hmem
    simp at this
    omega
end Go.Proofs.Ytokendenofbnhaa
