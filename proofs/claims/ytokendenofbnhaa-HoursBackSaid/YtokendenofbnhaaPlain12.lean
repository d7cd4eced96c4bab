/- A new roster by counts; HoursGive: the exchange of two rosters. No program here. -/
import Derived.Test.YtokendenofbnhaaPlain11
namespace Go.Proofs.Ytokendenofbnhaa
/-- Each street has an hour that it can have. -/
def fitB : List Str → List Int → Bool
  | [], [] => true
  | s :: ss, h :: hs => inR h s.frm s.to && fitB ss hs
  | _, _ => false
theorem at_dec_ge {a : List Int} {h g : Int} (hne : at_ a h ≠ 0) (hh : 0 ≤ h) (hg : 0 ≤ g) : at_ (dec a h) g = if g = h then at_ a h - 1 else at_ a g := by
  rw [at_dec9 hne]
  by_cases e : g = h
  · rw [if_pos e, if_pos (by rw [e])]
  · rw [if_neg e, if_neg (by omega)]
theorem good_iff : ∀ (ss : List Str) (a l : List Int), (∀ s ∈ ss, 0 ≤ s.frm) → (∀ g, 0 ≤ g → 0 ≤ at_ a g) → (goodL ss a l = true ↔ fitB ss l = true ∧ ∀ g : Int, 0 ≤ g → (l.count g : Int) ≤ at_ a g)
  | [], a, [], _, ha => by simpa [goodL, fitB] using ha
  | [], _, _ :: _, _, _ => by simp [goodL, fitB]
  | _ :: _, _, [], _, _ => by simp [goodL, fitB]
  | s :: ss, a, h :: hs, hf, ha => by
    simp only [goodL, fitB, Bool.and_eq_true, bne_iff_ne, inR_iff]
    have hs0 := hf s (by simp)
    have hf' : ∀ t ∈ ss, 0 ≤ t.frm := fun t ht => hf t (by simp [ht])
    constructor
    · rintro ⟨⟨h1, h2⟩, h3⟩
      have hh : 0 ≤ h := by omega
      have ih := (good_iff ss (dec a h) hs hf' (fun g hg => by
        rw [at_dec_ge h2 hh hg]
        have := ha h hh
        have := ha g hg
        split <;> omega)).1 h3
      refine ⟨⟨h1, ih.1⟩, fun g hg => ?_⟩
      have := ih.2 g hg
      rw [at_dec_ge h2 hh hg] at this
      rw [List.count_cons]
      by_cases e : g = h
      · subst e
        simp at this ⊢
        omega
      · rw [if_neg e] at this
        rw [if_neg (by simp; exact fun e' => e e'.symm)]
        omega
    · rintro ⟨⟨h1, h2⟩, h3⟩
      have hh : 0 ≤ h := by omega
      have h4 := h3 h hh
      rw [List.count_cons_self] at h4
      have hne : at_ a h ≠ 0 := by omega
      refine ⟨⟨h1, hne⟩, (good_iff ss (dec a h) hs hf' (fun g hg => by
        rw [at_dec_ge hne hh hg]
        have := ha h hh
        have := ha g hg
        split <;> omega)).2 ⟨h2, fun g hg => ?_⟩⟩
      have := h3 g hg
      rw [at_dec_ge hne hh hg]
      rw [List.count_cons] at this
      by_cases e : g = h
      · subst e
        simp at this ⊢
        omega
      · rw [if_neg e]
        omega
theorem new_iff {r : Ros} (h : ROk r) {l : List Int} : newB r l = true ↔ fitB r.strs l = true ∧ ∀ g : Int, 0 ≤ g → (l.count g : Int) ≤ at_ r.room g :=
  good_iff _ _ _ (fun s hs => (h.strs s hs).frm0) (fun g _ => (h.room_le g).1)
theorem fit_iff : ∀ {ss : List Str} {l : List Int}, fitB ss l = true ↔ l.length = ss.length ∧ ∀ i (h1 : i < ss.length) (h2 : i < l.length), ss[i].frm ≤ l[i] ∧ l[i] ≤ ss[i].to
  | [], [] => by simp [fitB]
  | [], _ :: _ => by simp [fitB]
  | _ :: _, [] => by simp [fitB]
  | s :: ss, h :: hs => by
    simp only [fitB, Bool.and_eq_true, inR_iff, List.length_cons, fit_iff (ss := ss) (l := hs)]
    constructor
    · rintro ⟨h1, h2, h3⟩
      refine ⟨by omega, fun i h4 h5 => ?_⟩
      cases i with
      | zero => exact h1
      | succ i => exact h3 i (by omega) (by omega)
    · rintro ⟨h1, h2⟩
      exact ⟨h2 0 (by omega) (by omega), by omega, fun i h4 h5 => h2 (i + 1) (by omega) (by omega)⟩
theorem sumW_set (w : Str → Int → Int) : ∀ (ss : List Str) (l : List Int) (i : Nat) (g : Int) (h1 : i < ss.length) (h2 : i < l.length), sumW w ss (l.set i g) = sumW w ss l - w ss[i] l[i] + w ss[i] g
  | [], _, _, _, h1, _ => by simp at h1
  | _ :: _, [], _, _, _, h2 => by simp at h2
  | s :: ss, h :: hs, 0, g, _, _ => by simp only [List.set_cons_zero, sumW, List.getElem_cons_zero]; omega
  | s :: ss, h :: hs, i + 1, g, h1, h2 => by
    have := sumW_set w ss hs i g (by simpa using h1) (by simpa using h2)
    simp only [List.set_cons_succ, sumW, List.getElem_cons_succ]
    omega
/-- In how many places two lists are the same. -/
def agree : List Int → List Int → Nat
  | a :: as, b :: bs => (if a = b then 1 else 0) + agree as bs
  | _, _ => 0
theorem agree_le : ∀ a b : List Int, agree a b ≤ a.length
  | [], _ => by simp [agree]
  | _ :: _, [] => by simp [agree]
  | a :: as, b :: bs => by
    have := agree_le as bs
    simp only [agree, List.length_cons]
    split <;> omega
theorem agree_set : ∀ (a b : List Int) (i : Nat) (h1 : i < a.length) (h2 : i < b.length), a[i] ≠ b[i] → agree (a.set i b[i]) b = agree a b + 1
  | [], _, _, h1, _, _ => by simp at h1
  | _ :: _, [], _, _, h2, _ => by simp at h2
  | a :: as, b :: bs, 0, _, _, h => by
    simp only [List.getElem_cons_zero] at h
    simp only [List.set_cons_zero, agree, List.getElem_cons_zero, if_neg h]
    simp
    omega
  | a :: as, b :: bs, i + 1, h1, h2, h => by
    have := agree_set as bs i (by simpa using h1) (by simpa using h2) (by simpa using h)
    simp only [List.set_cons_succ, agree, List.getElem_cons_succ]
    omega
theorem count_lt_ex : ∀ (a b : List Int) (g : Int), a.length = b.length → a.count g < b.count g → ∃ i, ∃ (h1 : i < a.length) (h2 : i < b.length), b[i] = g ∧ a[i] ≠ g
  | [], [], _, _, h => by simp at h
  | [], _ :: _, _, h, _ => by simp at h
  | _ :: _, [], _, h, _ => by simp at h
  | a :: as, b :: bs, g, hl, h => by
    by_cases hc : b = g ∧ a ≠ g
    · exact ⟨0, by simp, by simp, hc⟩
    · rw [List.count_cons, List.count_cons] at h
      have : as.count g < bs.count g := by
        by_cases hb : b = g
        · have ha : a = g := Classical.byContradiction fun e => hc ⟨hb, e⟩
          simp [ha, hb] at h
          exact h
        · rw [if_neg (by simpa using hb : ¬ (b == g) = true)] at h
          omega
      obtain ⟨i, h1, h2, h3⟩ := count_lt_ex as bs g (by simpa using hl) this
      exact ⟨i + 1, by simpa using h1, by simpa using h2, h3⟩
theorem count_set' (l : List Int) (i : Nat) (g x : Int) (h : i < l.length) : ((l.set i g).count x : Int) = (l.count x : Int) - (if x = l[i] then 1 else 0) + (if x = g then 1 else 0) := by
  rw [List.count_set h]
  have hm : (if l[i] == x then 1 else 0) ≤ l.count x := by
    split
    · rename_i e
      have e : l[i] = x := by simpa using e
      exact List.count_pos_iff.2 (e ▸ List.getElem_mem h)
    · omega
  have e1 : (if l[i] == x then 1 else 0) = (if x = l[i] then 1 else 0 : Nat) := by
    by_cases e : x = l[i]
    · simp [e]
    · rw [if_neg (by simp; exact fun e' => e e'.symm), if_neg e]
  have e2 : (if g == x then 1 else 0) = (if x = g then 1 else 0 : Nat) := by
    by_cases e : x = g
    · simp [e]
    · rw [if_neg (by simp; exact fun e' => e e'.symm), if_neg e]
  rw [e1] at hm
  rw [e1, e2]
  by_cases e3 : x = l[i]
  · rw [if_pos e3] at hm
    by_cases e4 : x = g
    · simp only [if_pos e3, if_pos e4]; omega
    · simp only [if_pos e3, if_neg e4]; omega
  · by_cases e4 : x = g
    · simp only [if_neg e3, if_pos e4]; omega
    · simp only [if_neg e3, if_neg e4]; omega
/-- Two rosters, one that leaves room in an hour, one that has one more there than there is room: two others, as dear together, that are new rosters. -/
theorem cross {r : Ros} (h : ROk r) {l l' : List Int} {H : Int} (hH : 0 ≤ H) (hl : newB r l = true) (hf : fitB r.strs l' = true) (hc : ∀ g : Int, 0 ≤ g → (l'.count g : Int) ≤ at_ r.room g + if g = H then 1 else 0)
    (hr : (l.count H : Int) < at_ r.room H) (hm : at_ r.room H < (l'.count H : Int)) :
    ∀ (n : Nat) (m k : List Int) (g : Int), m.length - agree m l' ≤ n → m.length = l.length → k.length = l.length → 0 ≤ g →
      (∀ i (h1 : i < m.length) (h2 : i < k.length) (h3 : i < l.length) (h4 : i < l'.length), (m[i] = l[i] ∧ k[i] = l'[i]) ∨ (m[i] = l'[i] ∧ k[i] = l[i])) →
      (∀ x : Int, (m.count x : Int) = (l.count x : Int) + (if x = H then 1 else 0) - (if x = g then 1 else 0)) →
      (∀ x : Int, (k.count x : Int) = (l'.count x : Int) - (if x = H then 1 else 0) + (if x = g then 1 else 0)) →
      costL r.strs m + costL r.strs k = costL r.strs l + costL r.strs l' →
      ∃ m k, newB r m = true ∧ newB r k = true ∧ costL r.strs m + costL r.strs k = costL r.strs l + costL r.strs l' := by
  obtain ⟨hfl, hcl⟩ := (new_iff h).1 hl
  have hll := (fit_iff.1 hfl).1
  have hll' := (fit_iff.1 hf).1
  intro n
  induction n with
  | zero =>
    intro m k g hn hml hkl hg hmk hcm hck hcost
    exfalso
    have ha := agree_le m l'
    have : agree m l' = m.length := by omega
    have hlt : m.count g < l'.count g ∨ (g ≠ H ∧ (l'.count g : Int) < l.count g) := by
      have h1 := hcm g
      by_cases e : g = H
      · subst e
        simp at h1
        omega
      · rw [if_neg e] at h1
        simp at h1
        omega
    -- all is as in l': then no place is left
    have hme : m = l' := by
      clear hmk hcm hck hcost hlt hn
      have : ∀ (a b : List Int), a.length = b.length → agree a b = a.length → a = b := by
        intro a
        induction a with
        | nil => intro b hb _; cases b <;> simp_all
        | cons a as ih =>
          intro b hb hag
          cases b with
          | nil => simp at hb
          | cons b bs =>
            have := agree_le as bs
            simp only [agree, List.length_cons] at hag hb
            have e : a = b := by
              apply Classical.byContradiction
              intro e
              rw [if_neg e] at hag
              omega
            rw [if_pos e] at hag
            rw [e, ih bs (by omega) (by omega)]
      exact this m l' (by omega) (by omega)
    subst hme
    have h1 := hcm H
    simp at h1
    by_cases e : H = g
    · subst e
      simp at h1
      omega
    · rw [if_neg e] at h1
      omega
  | succ n ih =>
    intro m k g hn hml hkl hg hmk hcm hck hcost
    by_cases hend : g ≠ H ∧ (l'.count g : Int) < l.count g
    · refine ⟨m, k, (new_iff h).2 ⟨fit_iff.2 ⟨by omega, fun i h1 h2 => ?_⟩, fun x hx => ?_⟩, (new_iff h).2 ⟨fit_iff.2 ⟨by omega, fun i h1 h2 => ?_⟩, fun x hx => ?_⟩, hcost⟩
      · rcases hmk i h2 (by omega) (by omega) (by omega) with ⟨e, _⟩ | ⟨e, _⟩
        · rw [e]; exact (fit_iff.1 hfl).2 i h1 (by omega)
        · rw [e]; exact (fit_iff.1 hf).2 i h1 (by omega)
      · have h1 := hcm x
        have h2 := hcl x hx
        by_cases e : x = H
        · subst e
          rw [if_pos rfl] at h1
          split at h1 <;> omega
        · rw [if_neg e] at h1
          split at h1 <;> omega
      · rcases hmk i (by omega) h2 (by omega) (by omega) with ⟨_, e⟩ | ⟨_, e⟩
        · rw [e]; exact (fit_iff.1 hf).2 i h1 (by omega)
        · rw [e]; exact (fit_iff.1 hfl).2 i h1 (by omega)
      · have h1 := hck x
        have h2 := hc x hx
        have h3 := hcl x hx
        by_cases e : x = H
        · subst e
          rw [if_pos rfl] at h1 h2
          rw [if_neg (fun e => hend.1 e.symm)] at h1
          omega
        · rw [if_neg e] at h1 h2
          by_cases e2 : x = g
          · subst e2
            rw [if_pos rfl] at h1
            omega
          · rw [if_neg e2] at h1
            omega
    · have hlt : m.count g < l'.count g := by
        have h1 := hcm g
        by_cases e : g = H
        · subst e
          simp at h1
          omega
        · rw [if_neg e] at h1
          simp at h1
          have : ¬ (l'.count g : Int) < l.count g := fun e2 => hend ⟨e, e2⟩
          omega
      obtain ⟨i, h1, h2, h3, h4⟩ := count_lt_ex m l' g (by omega) hlt
      have hi := hmk i h1 (by omega) (by omega) h2
      have hmi : m[i] = l[i] ∧ k[i] = l'[i] := by
        rcases hi with hi | hi
        · exact hi
        · exact absurd (hi.1.trans h3) h4
      have hag := agree_set m l' i h1 h2 (by rw [h3]; exact h4)
      have ha := agree_le (m.set i l'[i]) l'
      rw [List.length_set] at ha
      refine ih (m.set i g) (k.set i l[i]) l[i] ?_ (by simpa using hml) (by simpa using hkl) ?_ ?_ ?_ ?_ ?_
      · rw [h3] at hag
        rw [h3] at ha
        rw [List.length_set]
        omega
      · have := (fit_iff.1 hfl).2 i (by omega) (by omega)
        have := (h.strs _ (List.getElem_mem (show i < r.strs.length by omega))).frm0
        omega
      · intro j j1 j2 j3 j4
        rw [List.getElem_set, List.getElem_set]
        by_cases e : i = j
        · subst e
          rw [if_pos rfl, if_pos rfl]
          exact .inr ⟨h3.symm, rfl⟩
        · rw [if_neg e, if_neg e]
          exact hmk j (by simpa using j1) (by simpa using j2) j3 j4
      · intro x
        rw [count_set' _ _ _ _ h1, hcm x, hmi.1]
        omega
      · intro x
        rw [count_set' _ _ _ _ (by omega), hck x, hmi.2, h3]
        omega
      · have e1 := sumW_set stepsI r.strs m i g (by omega) h1
        have e2 := sumW_set stepsI r.strs k i l[i] (by omega) (by omega)
        unfold costL at hcost ⊢
        rw [e1, e2, hmi.1, hmi.2, h3]
        omega
end Go.Proofs.Ytokendenofbnhaa
