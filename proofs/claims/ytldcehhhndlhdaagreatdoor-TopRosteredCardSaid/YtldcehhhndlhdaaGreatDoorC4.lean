/- What the answers mean: new rosters, the cheapest ones. No program here. -/
import Derived.Test.YtldcehhhndlhdaaGreatDoorC3
namespace Go.Proofs.YtldcehhhndlhdaaGreatDoor.Hr
/-- Two rooms that say the same of each hour. -/
def Eqv (l l' : List Int) : Prop := ∀ h : Int, at_ l h = at_ l' h
theorem Eqv.dec {l l' : List Int} (h : Eqv l l') {i : Int} (hi : at_ l i ≠ 0) : Eqv (dec l i) (dec l' i) := by
  intro j
  have hi' : at_ l' i ≠ 0 := by rw [← h i]; exact hi
  have hl : ∀ m : List Int, at_ m i ≠ 0 → i.toNat < m.length := fun m hm => by
    apply Classical.byContradiction
    intro hn
    apply hm
    unfold at_
    rw [List.getD_eq_getElem?_getD, List.getElem?_eq_none (by omega)]
    rfl
  unfold Go.Proofs.YtldcehhhndlhdaaGreatDoor.Hr.dec
  rw [at_set, at_set, h j, h i]
  by_cases hj : j.toNat = i.toNat
  · rw [if_pos ⟨hj, hl l hi⟩, if_pos ⟨hj, hl l' hi'⟩]
  · rw [if_neg (fun e => hj e.1), if_neg (fun e => hj e.1)]
theorem goodL_eqv : ∀ (ss : List Str) (left left' l : List Int), Eqv left left' → goodL ss left l = goodL ss left' l
  | [], _, _, [], _ => rfl
  | [], _, _, _ :: _, _ => rfl
  | _ :: _, _, _, [], _ => rfl
  | s :: ss, left, left', h :: hs, he => by
    simp only [goodL]
    rw [he h]
    by_cases h0 : at_ left' h = 0
    · simp [h0]
    · rw [goodL_eqv ss _ _ hs (he.dec (by rw [he h]; exact h0))]
theorem pad_eqv (l : List Int) : Eqv l (pad l) := by
  intro h
  unfold at_ pad
  rw [List.getD_eq_getElem?_getD, List.getD_eq_getElem?_getD]
  by_cases hl : h.toNat < l.length
  · rw [List.getElem?_append_left hl]
  · rw [List.getElem?_append_right (by omega), List.getElem?_eq_none (by omega), List.getElem?_replicate]
    split <;> rfl
theorem newB_pad (r : Ros) (l : List Int) : newB r l = goodL r.strs (pad r.room) l := goodL_eqv _ _ _ _ (pad_eqv _)
/-- There is one: it is real, and none is cheaper. -/
theorem best_real {w : Str → Int → Int} {r : Ros} (h : ROk r) (hb : 0 ≤ (bestR w r).2) :
    newB r (rosterP w r.strs (pad r.room)) = true ∧ mayL w r.strs (rosterP w r.strs (pad r.room)) = true ∧ sumW w r.strs (rosterP w r.strs (pad r.room)) = (bestR w r).1 ∧
    ∀ l, newB r l = true → mayL w r.strs l = true → (bestR w r).1 ≤ sumW w r.strs l := by
  have hs := best_stands w r.strs (pad r.room) (fromOk_of h)
  cases hm : firstMin (sumW w r.strs) (allL w r.strs (pad r.room)) with
  | none => rw [hm] at hs; unfold bestR at hb; omega
  | some l =>
    rw [hm] at hs
    obtain ⟨h1, rfl, h3⟩ := hs
    have hmem := mem_allL.1 (firstMin_mem hm)
    refine ⟨by rw [newB_pad]; exact hmem.1, hmem.2, h3, fun l' hl' hm' => ?_⟩
    have := firstMin_le hm l' (mem_allL.2 ⟨by rw [← newB_pad]; exact hl', hm'⟩)
    unfold bestR
    omega
/-- There is none. -/
theorem best_no {w : Str → Int → Int} {r : Ros} (h : ROk r) (hb : (bestR w r).2 < 0) {l : List Int} (hl : newB r l = true) : mayL w r.strs l = false := by
  have h1 := (bestP_none (fromOk_of h)).1 hb
  cases hm : mayL w r.strs l
  · rfl
  · have : l ∈ allL w r.strs (pad r.room) := mem_allL.2 ⟨by rw [← newB_pad]; exact hl, hm⟩
    rw [h1] at this
    simp at this
theorem ROk.strs {r : Ros} (h : ROk r) : ∀ s ∈ r.strs, StrOk s := fun s hs => (h.so s hs).1
theorem steps_no {r : Ros} (h : ROk r) (hb : (bestR stepsI r).2 < 0) (l : List Int) : newB r l = false := by
  cases hl : newB r l
  · rfl
  · have := best_no h hb hl
    rw [mayL_steps h.strs] at this
    cases this
theorem once_iff {r : Ros} (h : ROk r) : (bestR onceI r).2 < 0 ↔ (bestR stepsI r).2 < 0 := by
  constructor
  · intro hb
    apply Classical.byContradiction
    intro hn
    have := best_no h hb (best_real h (w := stepsI) (by omega)).1
    rw [mayL_once] at this
    cases this
  · intro hb
    apply Classical.byContradiction
    intro hn
    have h1 := (best_real h (w := onceI) (by omega)).1
    rw [steps_no h hb] at h1
    cases h1
theorem farN_bd (r : Ros) : farN r ≤ 8 := by
  unfold farN
  cases hf : (List.range 9).find? (fun n : Nat => decide (0 ≤ (bestR (upToI (n : Int)) r).2)) with
  | none => simp
  | some k => have := List.mem_of_find?_eq_some hf; simp at this ⊢; omega
theorem askE_true {r : Ros} (h : ROk r) : askE r true = 0 := askE_zero.2 ⟨valid_iff.2 h, rfl⟩
/-- The three numbers, of a valid roster. -/
def someR (r : Ros) : Bool := decide (0 ≤ (bestR stepsI r).2)
theorem least_val {r : Ros} (h : ROk r) : leastR r = if someR r then ((bestR stepsI r).1, 0) else (0, 3) := by
  unfold leastR knownR someR
  rw [if_pos (askE_true h)]
  by_cases hb : (bestR stepsI r).2 < 0
  · rw [if_pos hb, if_neg (by simp; omega)]
  · rw [if_neg hb, if_pos (by simp; omega)]
theorem fewest_val {r : Ros} (h : ROk r) : fewestR r = if someR r then ((bestR onceI r).1, 0) else (0, 3) := by
  unfold fewestR knownR someR
  rw [if_pos (askE_true h)]
  have := once_iff h
  by_cases hb : (bestR stepsI r).2 < 0
  · rw [if_pos (this.2 hb), if_neg (by simp; omega)]
  · rw [if_neg (fun e => hb (this.1 e)), if_pos (by simp; omega)]
theorem far_val {r : Ros} (h : ROk r) : farR r = if someR r then ((farN r : Int), 0) else (0, 3) := by
  unfold farR
  rw [least_val h]
  cases someR r <;> simp
theorem steps_bd72 {s : Str} (hs : StrOk s) {x : Int} (h0 : s.frm ≤ x) (h1 : x ≤ s.to) : 0 ≤ stepsI s x ∧ stepsI s x ≤ 72 := by
  have hm := moveI_le7 hs h0 h1
  have hm0 := moveI_nonneg s x
  have := Int.mul_le_mul hm hs.cost1 hs.cost0 (by omega : (0 : Int) ≤ 8)
  exact ⟨Int.mul_nonneg hm0 hs.cost0, by unfold stepsI; omega⟩
theorem cost_bd {r : Ros} (h : ROk r) {l : List Int} (hl : newB r l = true) : 0 ≤ costL r.strs l ∧ costL r.strs l ≤ 432 := by
  have hi := InL.of_new hl
  have := sumW_bd (w := stepsI) (M := 72) (by omega) r.strs l (fun k h1 h2 => steps_bd72 (h.strs _ (List.getElem_mem h1)) (hi.inn k h1 h2).1 (hi.inn k h1 h2).2)
  have := h.sl
  unfold costL; omega
theorem least_real {r : Ros} (h : ROk r) (hs : someR r = true) : newB r (rosterP stepsI r.strs (pad r.room)) = true ∧ costL r.strs (rosterP stepsI r.strs (pad r.room)) = (bestR stepsI r).1 ∧ ∀ l, newB r l = true → (bestR stepsI r).1 ≤ costL r.strs l := by
  have hb := of_decide_eq_true hs
  obtain ⟨h1, _, h3, h4⟩ := best_real h hb
  exact ⟨h1, h3, fun l hl => h4 l hl (mayL_steps h.strs l)⟩
theorem some_of {r : Ros} (h : ROk r) {l : List Int} (hl : newB r l = true) : someR r = true := by
  unfold someR
  apply Classical.byContradiction
  intro hn
  have : (bestR stepsI r).2 < 0 := by simpa using hn
  rw [steps_no h this] at hl
  cases hl
/-- How many are moved. -/
def movedN (ss : List Str) (l : List Int) : Int := sumW onceI ss l
theorem fewest_real {r : Ros} (h : ROk r) (hs : someR r = true) : (∃ l, newB r l = true ∧ movedN r.strs l = (bestR onceI r).1) ∧ ∀ l, newB r l = true → (bestR onceI r).1 ≤ movedN r.strs l := by
  have hb : 0 ≤ (bestR onceI r).2 := by
    have := of_decide_eq_true hs
    have := once_iff h
    omega
  obtain ⟨h1, _, h3, h4⟩ := best_real h hb
  exact ⟨⟨_, h1, h3⟩, fun l hl => h4 l hl (mayL_once l)⟩
/-- Nobody is moved farther. -/
def nearL (n : Int) (ss : List Str) (l : List Int) : Prop := ∀ k (h1 : k < ss.length) (h2 : k < l.length), moveI ss[k] l[k] ≤ n
theorem mayL_near : ∀ {ss : List Str} {l : List Int} {n : Int}, (∀ s ∈ ss, StrOk s) → (mayL (upToI n) ss l = true ↔ nearL n ss l)
  | [], l, n, _ => by
    have : mayL (upToI n) [] l = true := by cases l <;> rfl
    simp [this, nearL]
  | s :: ss, [], n, _ => by
    have : mayL (upToI n) (s :: ss) [] = true := rfl
    simp [this, nearL]
  | s :: ss, h :: hs, n, hok => by
    have ih := mayL_near (ss := ss) (l := hs) (n := n) (fun s' hs' => hok s' (by simp [hs']))
    simp only [mayL, Bool.and_eq_true, decide_eq_true_eq, ih]
    have hu : 0 ≤ upToI n s h ↔ moveI s h ≤ n := by
      unfold upToI
      split
      · omega
      · have := Int.mul_nonneg (moveI_nonneg s h) (hok s (by simp)).cost0
        unfold stepsI; omega
    rw [hu]
    constructor
    · rintro ⟨h1, h2⟩ k hk1 hk2
      cases k with
      | zero => exact h1
      | succ k => exact h2 k (by simpa using hk1) (by simpa using hk2)
    · intro hn
      exact ⟨hn 0 (by simp) (by simp), fun k hk1 hk2 => hn (k + 1) (by simpa using hk1) (by simpa using hk2)⟩
theorem far_real {r : Ros} (h : ROk r) (hs : someR r = true) : (∃ l, newB r l = true ∧ nearL (farN r) r.strs l) ∧ ∀ l (n : Nat), newB r l = true → nearL n r.strs l → farN r ≤ n := by
  have hb := of_decide_eq_true hs
  obtain ⟨N, hN, hNb⟩ := far_ends h hb
  have key : ∃ k, (List.range 9).find? (fun n : Nat => decide (0 ≤ (bestR (upToI (n : Int)) r).2)) = some k := by
    cases hf : (List.range 9).find? (fun n : Nat => decide (0 ≤ (bestR (upToI (n : Int)) r).2)) with
    | none =>
      have := List.find?_eq_none.1 hf N (List.mem_range.2 hN)
      simp at this; omega
    | some k => exact ⟨k, rfl⟩
  obtain ⟨k, hk⟩ := key
  have hfk : farN r = k := by unfold farN; rw [hk]; rfl
  have hkb : 0 ≤ (bestR (upToI (k : Int)) r).2 := by have := List.find?_some hk; simpa using this
  rw [hfk]
  refine ⟨?_, fun l n hl hn => ?_⟩
  · obtain ⟨h1, h2, _⟩ := best_real h hkb
    exact ⟨_, h1, (mayL_near h.strs).1 h2⟩
  · apply Classical.byContradiction
    intro hlt
    have hn9 : n < 9 := by have := List.mem_of_find?_eq_some hk; simp at this; omega
    have hnb : 0 ≤ (bestR (upToI (n : Int)) r).2 := by
      apply Classical.byContradiction
      intro hno
      have := best_no h (w := upToI (n : Int)) (by omega) hl
      rw [(mayL_near h.strs).2 hn] at this
      cases this
    obtain ⟨_, as, bs, hab, hall⟩ := List.find?_eq_some_iff_append.1 hk
    have hmem : n ∈ as := by
      have hn' : n ∈ as ++ k :: bs := by rw [← hab]; exact List.mem_range.2 hn9
      rcases List.mem_append.1 hn' with h1 | h1
      · exact h1
      · exfalso
        have hp : (as ++ k :: bs).Pairwise (· < ·) := by rw [← hab]; exact List.pairwise_lt_range
        rcases List.mem_cons.1 h1 with h2 | h2
        · omega
        · have := (List.pairwise_cons.1 (List.pairwise_append.1 hp).2.1).1 n h2
          omega
    have := hall n hmem
    simp at this
    omega
end Go.Proofs.YtldcehhhndlhdaaGreatDoor.Hr
/- HoursStay: the plain law. No program here. -/
namespace Go.Proofs.YtldcehhhndlhdaaGreatDoor.Hr
/-- The least cost, and 9. -/
def minTo (ss : List Str) : Nat → Int
  | 0 => 9
  | k + 1 => min (minTo ss k) (ss.getD k default).cost
theorem minTo_bd {ss : List Str} (h : ∀ s ∈ ss, StrOk s) : ∀ k, k ≤ ss.length → 0 ≤ minTo ss k ∧ minTo ss k ≤ 9
  | 0, _ => by simp [minTo]
  | k + 1, hk => by
    have ih := minTo_bd h k (by omega)
    have e : ss.getD k default = ss[k] := by simp [List.getD_eq_getElem?_getD, List.getElem?_eq_getElem (show k < ss.length by omega)]
    have := (h ss[k] (List.getElem_mem _)).cost0
    simp only [minTo, e]
    omega
theorem minTo_le (ss : List Str) : ∀ k j (_ : j < k) (hj : j < ss.length), minTo ss k ≤ ss[j].cost
  | 0, j, h, _ => by omega
  | k + 1, j, h, hj => by
    simp only [minTo]
    rcases Nat.lt_succ_iff_lt_or_eq.1 h with h1 | rfl
    · have := minTo_le ss k j h1 hj
      omega
    · have e : ss.getD j default = ss[j] := by simp [List.getD_eq_getElem?_getD, List.getElem?_eq_getElem hj]
      rw [e]
      omega
theorem once_bd (s : Str) (h : Int) : 0 ≤ onceI s h ∧ onceI s h ≤ 1 := by
  have := moveI_nonneg s h
  unfold onceI; omega
theorem movedN_bd : ∀ (ss : List Str) (l : List Int), 0 ≤ movedN ss l ∧ movedN ss l ≤ ss.length := fun ss l => by
  have := sumW_bd (w := onceI) (M := 1) (by omega) ss l (fun k h1 h2 => once_bd _ _)
  unfold movedN; omega
theorem costL_ge : ∀ (ss : List Str) (l : List Int) (c : Int), 0 ≤ c → (∀ s ∈ ss, c ≤ s.cost ∧ 0 ≤ s.cost) → c * movedN ss l ≤ costL ss l
  | [], [], c, _, _ => by simp [movedN, costL, sumW]
  | [], _ :: _, c, _, _ => by simp [movedN, costL, sumW]
  | _ :: _, [], c, _, _ => by simp [movedN, costL, sumW]
  | s :: ss, h :: hs, c, h0, hc => by
    have ih := costL_ge ss hs c h0 (fun s' hs' => hc s' (by simp [hs']))
    have hs1 := hc s (by simp)
    have hone : c * onceI s h ≤ stepsI s h := by
      have hm := moveI_nonneg s h
      by_cases hz : moveI s h = 0
      · have e : min (1 : Int) 0 = 0 := by decide
        simp [onceI, stepsI, hz, e]
      · have : onceI s h = 1 := by unfold onceI; omega
        rw [this, Int.mul_one]
        unfold stepsI
        have := Int.mul_le_mul (show (1 : Int) ≤ moveI s h by omega) (Int.le_refl s.cost) hs1.2 (by omega)
        omega
    unfold movedN costL at ih ⊢
    simp only [sumW]
    rw [Int.mul_add]
    omega
/-- Nobody is moved. -/
theorem still {ss : List Str} {l : List Int} (h : nearL 0 ss l) : movedN ss l = 0 ∧ costL ss l = 0 := by
  have hz : ∀ k (h1 : k < ss.length) (h2 : k < l.length), moveI ss[k] l[k] = 0 := fun k h1 h2 => by
    have := h k h1 h2
    have := moveI_nonneg ss[k] l[k]
    omega
  constructor
  · have := sumW_bd (w := onceI) (M := 0) (by omega) ss l (fun k h1 h2 => by unfold onceI; rw [hz k h1 h2]; decide)
    unfold movedN; omega
  · have := sumW_bd (w := stepsI) (M := 0) (by omega) ss l (fun k h1 h2 => by simp [stepsI, hz k h1 h2])
    unfold costL; omega
theorem near_of_moved : ∀ (ss : List Str) (l : List Int), movedN ss l = 0 → nearL 0 ss l
  | [], _, _ => fun k h1 _ => by simp at h1
  | _ :: _, [], _ => fun k _ h2 => by simp at h2
  | s :: ss, h :: hs, hm => by
    have h1 := once_bd s h
    have h2 := movedN_bd ss hs
    have he : onceI s h + movedN ss hs = 0 := hm
    have ih := near_of_moved ss hs (by omega)
    intro k hk1 hk2
    cases k with
    | zero => show moveI s h ≤ 0; have e : onceI s h = 0 := by omega
              unfold onceI at e; omega
    | succ k => exact ih k (by simpa using hk1) (by simpa using hk2)
theorem least_pos {r : Ros} (h : ROk r) (hs : someR r = true) : 0 ≤ (bestR stepsI r).1 ∧ (bestR stepsI r).1 ≤ 432 := by
  obtain ⟨h1, h2, _⟩ := least_real h hs
  have := cost_bd h h1
  omega
theorem fewest_bd {r : Ros} (h : ROk r) (hs : someR r = true) : 0 ≤ (bestR onceI r).1 ∧ (bestR onceI r).1 ≤ r.strs.length := by
  obtain ⟨⟨l, _, h2⟩, _⟩ := fewest_real h hs
  have := movedN_bd r.strs l
  omega
theorem far_zero {r : Ros} (h : ROk r) (hs : someR r = true) : (farN r : Int) = 0 ↔ (bestR onceI r).1 = 0 := by
  obtain ⟨⟨l, hl, hn⟩, hf⟩ := far_real h hs
  obtain ⟨⟨m, hm, hmn⟩, hw⟩ := fewest_real h hs
  have hb := fewest_bd h hs
  constructor
  · intro hz
    rw [hz] at hn
    have := hw l hl
    rw [(still hn).1] at this
    omega
  · intro hz
    have := hf m 0 hm (near_of_moved _ _ (by omega))
    omega
theorem stay_zero {r : Ros} (h : ROk r) {l : List Int} (hl : newB r l = true) (hn : nearL 0 r.strs l) : (bestR stepsI r).1 = 0 ∧ farN r = 0 ∧ (bestR onceI r).1 = 0 := by
  have hs := some_of h hl
  have h1 := (least_real h hs).2.2 l hl
  have h2 := (far_real h hs).2 l 0 hl hn
  have h3 := (fewest_real h hs).2 l hl
  have h4 := still hn
  have := least_pos h hs
  have := fewest_bd h hs
  omega
theorem least_cost {r : Ros} (h : ROk r) (hs : someR r = true) : minTo r.strs r.strs.length * (bestR onceI r).1 ≤ (bestR stepsI r).1 := by
  obtain ⟨h1, h2, _⟩ := least_real h hs
  have h3 := (fewest_real h hs).2 _ h1
  have hc := minTo_bd h.strs r.strs.length (Nat.le_refl _)
  have h4 := costL_ge r.strs (rosterP stepsI r.strs (pad r.room)) (minTo r.strs r.strs.length) hc.1 (fun s hs' => by
    obtain ⟨k, hk, rfl⟩ := List.getElem_of_mem hs'
    exact ⟨minTo_le r.strs _ k hk hk, (h.strs _ hs').cost0⟩)
  have h5 := Int.mul_le_mul_of_nonneg_left h3 hc.1
  omega
end Go.Proofs.YtldcehhhndlhdaaGreatDoor.Hr
/- HoursLess, HoursMore: the plain laws. No program here. -/
namespace Go.Proofs.YtldcehhhndlhdaaGreatDoor.Hr
/-- As much room, or more. -/
def LeR (a b : List Int) : Prop := ∀ h : Int, 0 ≤ at_ a h ∧ at_ a h ≤ at_ b h
theorem at_dec9 {l : List Int} {h : Int} (hne : at_ l h ≠ 0) (j : Int) : at_ (dec l h) j = if j.toNat = h.toNat then at_ l h - 1 else at_ l j := by
  have hl : h.toNat < l.length := by
    apply Classical.byContradiction
    intro hn
    apply hne
    unfold at_
    rw [List.getD_eq_getElem?_getD, List.getElem?_eq_none (by omega)]
    rfl
  unfold dec
  rw [at_set]
  by_cases hj : j.toNat = h.toNat
  · rw [if_pos ⟨hj, hl⟩, if_pos hj]
  · rw [if_neg (fun e => hj e.1), if_neg hj]
theorem at_same9 {l : List Int} {i j : Int} (h : i.toNat = j.toNat) : at_ l i = at_ l j := by unfold at_; rw [h]
theorem LeR.dec {a b : List Int} (h : LeR a b) {i : Int} (hi : at_ a i ≠ 0) : LeR (dec a i) (dec b i) := by
  intro j
  have h1 := h i
  have h2 := h j
  have hb : at_ b i ≠ 0 := by omega
  rw [at_dec9 hi, at_dec9 hb]
  by_cases hj : j.toNat = i.toNat
  · rw [if_pos hj, if_pos hj]; omega
  · rw [if_neg hj, if_neg hj]; omega
theorem LeR.down {a : List Int} (h : LeR a a) {i : Int} (hi : at_ a i ≠ 0) : LeR (Go.Proofs.YtldcehhhndlhdaaGreatDoor.Hr.dec a i) a := by
  intro j
  have h1 := h i
  have h2 := h j
  rw [at_dec9 hi]
  by_cases hj : j.toNat = i.toNat
  · rw [if_pos hj, at_same9 hj]; omega
  · rw [if_neg hj]; omega
theorem goodL_mono : ∀ (ss : List Str) (a b l : List Int), LeR a b → goodL ss a l = true → goodL ss b l = true
  | [], _, _, [], _, _ => rfl
  | [], _, _, _ :: _, _, h => by simp [goodL] at h
  | _ :: _, _, _, [], _, h => by simp [goodL] at h
  | s :: ss, a, b, h :: hs, hab, hg => by
    simp only [goodL, Bool.and_eq_true, bne_iff_ne] at hg ⊢
    have := hab h
    exact ⟨⟨hg.1.1, by omega⟩, goodL_mono ss _ _ hs (hab.dec hg.1.2) hg.2⟩
theorem goodL_erase : ∀ (ss : List Str) (a l : List Int) (k : Nat), LeR a a → goodL ss a l = true → goodL (ss.eraseIdx k) a (l.eraseIdx k) = true
  | [], _, [], _, _, _ => rfl
  | [], _, _ :: _, _, _, h => by simp [goodL] at h
  | _ :: _, _, [], _, _, h => by simp [goodL] at h
  | s :: ss, a, h :: hs, 0, ha, hg => by
    simp only [goodL, Bool.and_eq_true, bne_iff_ne] at hg
    exact goodL_mono ss _ _ hs (ha.down hg.1.2) hg.2
  | s :: ss, a, h :: hs, k + 1, ha, hg => by
    simp only [goodL, Bool.and_eq_true, bne_iff_ne] at hg
    simp only [List.eraseIdx_cons_succ, goodL, Bool.and_eq_true, bne_iff_ne]
    exact ⟨hg.1, goodL_erase ss _ hs k (ha.dec hg.1.2) hg.2⟩
theorem sumW_erase (w : Str → Int → Int) : ∀ (ss : List Str) (l : List Int) (k : Nat) (h1 : k < ss.length) (h2 : k < l.length), sumW w ss l = w ss[k] l[k] + sumW w (ss.eraseIdx k) (l.eraseIdx k)
  | [], _, _, h1, _ => by simp at h1
  | _ :: _, [], _, _, h2 => by simp at h2
  | s :: ss, h :: hs, 0, _, _ => rfl
  | s :: ss, h :: hs, k + 1, h1, h2 => by
    have ih := sumW_erase w ss hs k (by simpa using h1) (by simpa using h2)
    simp only [List.eraseIdx_cons_succ, sumW, List.getElem_cons_succ]
    omega
theorem nearL_erase {n : Int} {ss : List Str} {l : List Int} (k : Nat) (h : nearL n ss l) : nearL n (ss.eraseIdx k) (l.eraseIdx k) := by
  intro j h1 h2
  rw [List.getElem_eraseIdx, List.getElem_eraseIdx]
  split
  · exact h j _ _
  · exact h (j + 1) _ _
/-- The roster without a street. -/
def lessR (r : Ros) (k : Nat) : Ros := { r with strs := r.strs.eraseIdx k }
theorem ROk.room_le {r : Ros} (h : ROk r) : LeR r.room r.room := fun i => by
  refine ⟨?_, by omega⟩
  unfold at_
  rw [List.getD_eq_getElem?_getD]
  cases hi : r.room[i.toNat]? with
  | none => simp
  | some x => exact (h.rm x (List.mem_of_getElem? hi)).1
theorem lessR_ok {r : Ros} (h : ROk r) (k : Nat) : ROk (lessR r k) :=
  ⟨h.rl, h.rm, by have := h.sl; have := List.length_eraseIdx_le r.strs k; simp only [lessR]; omega, fun s hs => h.so s (List.mem_of_mem_eraseIdx hs)⟩
theorem less_new {r : Ros} (h : ROk r) (k : Nat) {l : List Int} (hl : newB r l = true) : newB (lessR r k) (l.eraseIdx k) = true := goodL_erase _ _ _ _ h.room_le hl
theorem less_said {r : Ros} (h : ROk r) {k : Nat} (hk : k < r.strs.length) (hs : someR r = true) {l : List Int} (hl : newB r l = true) (hc : costL r.strs l = (bestR stepsI r).1) (hkl : k < l.length) :
    someR (lessR r k) = true ∧ (bestR stepsI (lessR r k)).1 + stepsI r.strs[k] l[k] ≤ (bestR stepsI r).1 ∧ (farN (lessR r k) : Int) ≤ (farN r : Int) ∧ (bestR onceI (lessR r k)).1 ≤ (bestR onceI r).1 := by
  have ho := lessR_ok h k
  have hso : someR (lessR r k) = true := some_of ho (less_new h k hl)
  refine ⟨hso, ?_, ?_, ?_⟩
  · have h1 := (least_real ho hso).2.2 _ (less_new h k hl)
    have h2 := sumW_erase stepsI r.strs l k hk hkl
    unfold costL at hc h1
    simp only [lessR] at h1 ⊢
    omega
  · obtain ⟨⟨m, hm, hn⟩, _⟩ := far_real h hs
    have hlen := goodL_length _ _ _ hm
    have := (far_real ho hso).2 _ _ (less_new h k hm) (nearL_erase k hn)
    omega
  · obtain ⟨⟨m, hm, hn⟩, _⟩ := fewest_real h hs
    have hlen := goodL_length _ _ _ hm
    have h1 := (fewest_real ho hso).2 _ (less_new h k hm)
    have h2 := sumW_erase onceI r.strs m k hk (by omega)
    have h3 := once_bd r.strs[k] (m[k]'(by omega))
    unfold movedN at hn h1
    simp only [lessR] at h1 ⊢
    omega
end Go.Proofs.YtldcehhhndlhdaaGreatDoor.Hr
/- HoursSwaps: the plain laws. No program here. -/
namespace Go.Proofs.YtldcehhhndlhdaaGreatDoor.Hr
/-- In a roster of the least cost no two should exchange their hours. -/
theorem swap_least {r : Ros} (h : ROk r) (hs : someR r = true) {l : List Int} (hc : costL r.strs l = (bestR stepsI r).1) {res : (Int × Int) × Int} (hr : SwapIs r l res) : res = ((0, 0), 3) := by
  rcases hr with ⟨a, b, _, _, _, hb, _⟩ | ⟨h1, _⟩
  · simp only [swapB, Bool.and_eq_true, decide_eq_true_eq] at hb
    have := (least_real h hs).2.2 _ hb.1
    omega
  · exact h1
/-- Two that should: a new roster that costs less. -/
theorem swap_less {r : Ros} {l : List Int} (hl : newB r l = true) {res : (Int × Int) × Int} (hr : SwapIs r l res) :
    res = ((0, 0), 3) ∨ ∃ a b : Nat, a < b ∧ b < l.length ∧ res = (((a : Int), (b : Int)), 0) ∧ newB r (exch l a b) = true ∧ costL r.strs (exch l a b) < costL r.strs l ∧ isStreet r (a : Int) = true ∧ isStreet r (b : Int) = true := by
  have hlen := goodL_length _ _ _ hl
  rcases hr with ⟨a, b, hab, hbl, rfl, hb, _⟩ | ⟨h1, _⟩
  · simp only [swapB, Bool.and_eq_true, decide_eq_true_eq] at hb
    exact .inr ⟨a, b, hab, hbl, rfl, hb.1, hb.2, by unfold isStreet; rw [inR_iff]; omega, by unfold isStreet; rw [inR_iff]; omega⟩
  · exact .inl h1
theorem cut_later {p q : Prop} (h1 : p → q) (h2 : p) : q := h1 h2
end Go.Proofs.YtldcehhhndlhdaaGreatDoor.Hr
