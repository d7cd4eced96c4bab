/- What the program's functions answer, in plain words. No program here. -/
import Derived.Test.YtokendenofbnhaaPlain2
namespace Go.Proofs.Ytokendenofbnhaa
/-- The room, in eight numbers. -/
def pad (l : List Int) : List Int := l ++ List.replicate (8 - l.length) 0
theorem pad_len (room : List Int) (hl : room.length ≤ 8) : (pad room).length = 8 := by simp [pad]; omega
theorem pad_ok {l : List Int} (hl : l.length ≤ 8) (h : ∀ x ∈ l, 0 ≤ x ∧ x ≤ 7) : LOk (pad l) :=
  ⟨by simp [pad]; omega, fun x hx => by
    rcases List.mem_append.1 hx with hx | hx
    · exact h x hx
    · have := List.eq_of_mem_replicate hx; omega⟩
structure ROk (r : Ros) : Prop where
  rl : r.room.length ≤ 8
  rm : ∀ x ∈ r.room, 0 ≤ x ∧ x ≤ 6
  sl : r.strs.length ≤ 6
  so : ∀ s ∈ r.strs, StrOk s ∧ s.to < r.room.length ∧ s.has < r.room.length
theorem valid_iff {r : Ros} : valid r = true ↔ ROk r := by
  simp only [valid, Bool.and_eq_true, decide_eq_true_eq, Bool.not_eq_true', List.any_eq_false]
  constructor
  · rintro ⟨⟨⟨h1, h2⟩, h3⟩, h4⟩
    refine ⟨h1, fun x hx => ?_, h3, fun s hs => ?_⟩
    · have := h2 x hx; simp [badRoom, inR] at this; omega
    · have := h4 s hs
      simp [badStr, isHour, inR] at this
      obtain ⟨⟨⟨⟨a, b⟩, c⟩, d⟩, e⟩ := this
      by_cases h : s.has = -1
      · exact ⟨⟨by omega, by omega, by omega, by omega, by omega, by omega, by omega⟩, by omega, by omega⟩
      · have := a h
        exact ⟨⟨by omega, by omega, by omega, by omega, by omega, by omega, by omega⟩, by omega, by omega⟩
  · rintro ⟨h1, h2, h3, h4⟩
    refine ⟨⟨⟨h1, fun x hx => ?_⟩, h3⟩, fun s hs => ?_⟩
    · have := h2 x hx; simp [badRoom, inR]; omega
    · obtain ⟨⟨a, b, c, d, e, f, g⟩, h, i⟩ := h4 s hs
      simp [badStr, isHour, inR]
      refine ⟨⟨⟨⟨?_, ?_⟩, ?_⟩, ?_⟩, ?_⟩ <;> omega
def bestR (w : Str → Int → Int) (r : Ros) : Int × Int := bestP w r.strs (pad r.room)
/-- What 'known' hands back beside the clerk. -/
def knownR (w : Str → Int → Int) (r : Ros) (is : Bool) : Int × Int :=
  if askE r is = 0 then (if (bestR w r).2 < 0 then (0, 3) else ((bestR w r).1, 0)) else (0, askE r is)
def leastR (r : Ros) : Int × Int := knownR stepsI r true
def fewestR (r : Ros) : Int × Int := knownR onceI r true
def farN (r : Ros) : Nat := ((List.range 9).find? fun n : Nat => decide (0 ≤ (bestR (upToI (n : Int)) r).2)).getD 0
def farR (r : Ros) : Int × Int := if (leastR r).2 = 0 then ((farN r : Int), 0) else (0, (leastR r).2)
def rosterR (r : Ros) : List Int × Int := if (leastR r).2 = 0 then (rosterP stepsI r.strs (pad r.room), 0) else ([], (leastR r).2)
def fairR (r : Ros) : List Int × Int := if (leastR r).2 = 0 then (rosterP (upToI (farN r : Int)) r.strs (pad r.room), 0) else ([], (leastR r).2)
theorem askE_zero {r : Ros} {is : Bool} : askE r is = 0 ↔ valid r = true ∧ is = true := by
  unfold askE
  cases valid r <;> cases is <;> simp
theorem bestP_none {w : Str → Int → Int} {ss : List Str} {left : List Int} (hf : fromOk ss) : (bestP w ss left).2 < 0 ↔ allL w ss left = [] := by
  have h := best_stands w ss left hf
  constructor
  · intro hn
    cases hm : firstMin (sumW w ss) (allL w ss left) with
    | none => exact firstMin_none.1 hm
    | some l => rw [hm] at h; have := h.1; omega
  · intro he
    rw [he] at h
    exact h
theorem fromOk_of {r : Ros} (h : ROk r) : fromOk r.strs := fun s hs => (h.so s hs).1.frm0
theorem moveI_le7 {s : Str} (hs : StrOk s) {h : Int} (h0 : s.frm ≤ h) (h1 : h ≤ s.to) : moveI s h ≤ 8 := by
  obtain ⟨a, b, c, d, e, f, g⟩ := hs
  unfold moveI; split <;> omega
theorem mayL_upTo {ss : List Str} : ∀ {left l : List Int} {n : Int}, (∀ s ∈ ss, StrOk s) → 8 ≤ n → goodL ss left l = true → mayL (upToI n) ss l = true := by
  induction ss with
  | nil => intro left l n _ _ hg; cases l <;> rfl
  | cons s ss ih =>
    intro left l n hok hn hg
    cases l with
    | nil => rfl
    | cons h hs =>
      simp only [goodL, Bool.and_eq_true, inR_iff] at hg
      simp only [mayL, Bool.and_eq_true, decide_eq_true_eq]
      refine ⟨?_, ih (fun s hs => hok s (by simp [hs])) hn hg.2⟩
      have hso := hok s (by simp)
      have := moveI_le7 hso hg.1.1.1 hg.1.1.2
      unfold upToI
      rw [if_neg (by omega)]
      exact Int.mul_nonneg (moveI_nonneg _ _) hso.cost0
theorem mayL_steps {ss : List Str} (hok : ∀ s ∈ ss, StrOk s) : ∀ (l : List Int), mayL stepsI ss l = true := by
  induction ss with
  | nil => intro l; cases l <;> rfl
  | cons s ss ih =>
    intro l
    cases l with
    | nil => rfl
    | cons h hs =>
      simp only [mayL, Bool.and_eq_true, decide_eq_true_eq]
      exact ⟨Int.mul_nonneg (moveI_nonneg _ _) (hok s (by simp)).cost0, ih (fun s hs => hok s (by simp [hs])) hs⟩
theorem mayL_once {ss : List Str} : ∀ (l : List Int), mayL onceI ss l = true := by
  induction ss with
  | nil => intro l; cases l <;> rfl
  | cons s ss ih =>
    intro l
    cases l with
    | nil => rfl
    | cons h hs =>
      simp only [mayL, Bool.and_eq_true, decide_eq_true_eq]
      refine ⟨?_, ih hs⟩
      have := moveI_nonneg s h
      unfold onceI; omega
/-- There is a new roster: then there is one in which nobody moves by more than eight hours. -/
theorem far_ends {r : Ros} (h : ROk r) (hl : 0 ≤ (bestR stepsI r).2) : ∃ n : Nat, n < 9 ∧ 0 ≤ (bestR (upToI (n : Int)) r).2 := by
  refine ⟨8, by omega, ?_⟩
  apply Classical.byContradiction
  intro hn
  have h1 := (bestP_none (fromOk_of h)).1 (show (bestR (upToI ((8 : Nat) : Int)) r).2 < 0 by omega)
  have h2 : allL stepsI r.strs (pad r.room) ≠ [] := fun e => by
    have := (bestP_none (w := stepsI) (left := pad r.room) (fromOk_of h)).2 e
    unfold bestR at hl; omega
  obtain ⟨l, hl'⟩ := List.exists_mem_of_ne_nil _ h2
  have h3 := (mem_allL.1 hl').1
  have : l ∈ allL (upToI ((8 : Nat) : Int)) r.strs (pad r.room) := mem_allL.2 ⟨h3, mayL_upTo (fun s hs => (h.so s hs).1) (by omega) h3⟩
  rw [h1] at this
  simp at this
theorem farN_of {r : Ros} {n : Nat} (h1 : ∀ k : Nat, k < n → (bestR (upToI (k : Int)) r).2 < 0) (h2 : 0 ≤ (bestR (upToI (n : Int)) r).2) (hn : n < 9) : farN r = n := by
  unfold farN
  have : (List.range 9).find? (fun n : Nat => decide (0 ≤ (bestR (upToI (n : Int)) r).2)) = some n := by
    rw [List.find?_eq_some_iff_append]
    refine ⟨by simpa using h2, List.range n, (List.range' (n + 1) (8 - n)), ?_, fun a ha => ?_⟩
    · rw [List.range_eq_range', List.range_eq_range', show List.range' 0 9 = List.range' 0 (n + (1 + (8 - n))) by rw [show n + (1 + (8 - n)) = 9 by omega], ← List.range'_append_1, ← List.range'_append_1]
      simp
    · have := h1 a (List.mem_range.1 ha)
      simp; omega
  rw [this]; rfl
/-- A step of the cheapest roster. -/
theorem best_step {w : Str → Int → Int} {s : Str} {ss : List Str} {left : List Int} (h : 0 ≤ (bestP w (s :: ss) left).2) :
    s.frm ≤ (bestP w (s :: ss) left).2 ∧ (bestP w (s :: ss) left).2 ≤ s.to ∧ at_ left (bestP w (s :: ss) left).2 ≠ 0 ∧ 0 ≤ (bestP w ss (dec left (bestP w (s :: ss) left).2)).2 := by
  have key : ∀ (hs : List Int) (out : Int × Int), (∀ x ∈ hs, s.frm ≤ x ∧ x ≤ s.to) → (0 ≤ out.2 → s.frm ≤ out.2 ∧ out.2 ≤ s.to ∧ at_ left out.2 ≠ 0 ∧ 0 ≤ (bestP w ss (dec left out.2)).2) →
      0 ≤ (hs.foldl (tryH w (bestP w ss) s left) out).2 → s.frm ≤ (hs.foldl (tryH w (bestP w ss) s left) out).2 ∧ (hs.foldl (tryH w (bestP w ss) s left) out).2 ≤ s.to ∧ at_ left (hs.foldl (tryH w (bestP w ss) s left) out).2 ≠ 0 ∧ 0 ≤ (bestP w ss (dec left (hs.foldl (tryH w (bestP w ss) s left) out).2)).2 := by
    intro hs
    induction hs with
    | nil => intro out _ ho h; exact ho h
    | cons x hs ih =>
      intro out hx ho
      refine ih _ (fun y hy => hx y (by simp [hy])) (fun h => ?_)
      unfold tryH at h ⊢
      split
      · rename_i hc; rw [if_pos hc] at h; exact ho h
      · rename_i hc
        rw [if_neg hc] at h
        split
        · rename_i hc2; rw [if_pos hc2] at h; exact ho h
        · rename_i hc2
          rw [if_neg hc2] at h
          split
          · exact ⟨(hx x (by simp)).1, (hx x (by simp)).2, fun e => hc (.inr e), by simp only; omega⟩
          · rename_i hc3; rw [if_neg hc3] at h; exact ho h
  exact key (hrs s) (0, -1) (fun x hx => mem_hrs.1 hx) (fun h => by simp at h) h
end Go.Proofs.Ytokendenofbnhaa
