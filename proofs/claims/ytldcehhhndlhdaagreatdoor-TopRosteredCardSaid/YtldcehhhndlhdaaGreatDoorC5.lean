/- HoursMore: the plain laws; a new roster by counts. No program here. -/
import Derived.Test.YtldcehhhndlhdaaGreatDoorC4
namespace Go.Proofs.YtldcehhhndlhdaaGreatDoor.Hr
/-- The same street, that can have these hours, or more. -/
def Wd (s t : Str) : Prop := t.has = s.has ∧ t.cost = s.cost ∧ t.frm ≤ s.frm ∧ s.to ≤ t.to
def WdL : List Str → List Str → Prop
  | [], [] => True
  | s :: ss, t :: tt => Wd s t ∧ WdL ss tt
  | _, _ => False
theorem Wd.refl (s : Str) : Wd s s := ⟨rfl, rfl, Int.le_refl _, Int.le_refl _⟩
theorem WdL.refl : ∀ ss, WdL ss ss
  | [] => trivial
  | s :: ss => ⟨Wd.refl s, WdL.refl ss⟩
theorem WdL.set : ∀ (ss : List Str) (k : Nat) (t : Str) (hk : k < ss.length), Wd ss[k] t → WdL ss (ss.set k t)
  | [], _, _, hk, _ => by simp at hk
  | s :: ss, 0, t, _, h => ⟨h, WdL.refl ss⟩
  | s :: ss, k + 1, t, hk, h => ⟨Wd.refl s, WdL.set ss k t (by simpa using hk) (by simpa using h)⟩
theorem Wd.move {s t : Str} (h : Wd s t) (x : Int) : moveI t x = moveI s x := by unfold moveI; rw [h.1]
theorem Wd.steps {s t : Str} (h : Wd s t) (x : Int) : stepsI t x = stepsI s x := by unfold stepsI; rw [h.move, h.2.1]
theorem Wd.once {s t : Str} (h : Wd s t) (x : Int) : onceI t x = onceI s x := by unfold onceI; rw [h.move]
theorem sumW_wd {w : Str → Int → Int} (hw : ∀ s t x, Wd s t → w t x = w s x) : ∀ (ss tt : List Str) (l : List Int), WdL ss tt → sumW w tt l = sumW w ss l
  | [], [], _, _ => rfl
  | _ :: _, _ :: _, [], _ => rfl
  | s :: ss, t :: tt, x :: l, h => by simp only [sumW]; rw [hw s t x h.1, sumW_wd hw ss tt l h.2]
  | [], _ :: _, _, h => h.elim
  | _ :: _, [], _, h => h.elim
theorem WdL.len : ∀ {ss tt : List Str}, WdL ss tt → tt.length = ss.length
  | [], [], _ => rfl
  | s :: ss, t :: tt, h => by simp only [List.length_cons]; rw [WdL.len h.2]
  | [], _ :: _, h => h.elim
  | _ :: _, [], h => h.elim
theorem WdL.at : ∀ {ss tt : List Str}, WdL ss tt → ∀ k (h1 : k < ss.length) (h2 : k < tt.length), Wd ss[k] tt[k]
  | s :: ss, t :: tt, h, 0, _, _ => h.1
  | s :: ss, t :: tt, h, k + 1, h1, h2 => by
    simp only [List.getElem_cons_succ]
    exact WdL.at h.2 k _ _
  | [], [], _, k, h1, _ => by simp at h1
  | [], _ :: _, h, _, _, _ => h.elim
  | _ :: _, [], h, _, _, _ => h.elim
theorem goodL_wd : ∀ (ss tt : List Str) (a l : List Int), WdL ss tt → goodL ss a l = true → goodL tt a l = true
  | [], [], _, _, _, h => h
  | s :: ss, t :: tt, a, [], _, h => by simp [goodL] at h
  | s :: ss, t :: tt, a, x :: l, hw, h => by
    simp only [goodL, Bool.and_eq_true, bne_iff_ne, inR_iff] at h ⊢
    obtain ⟨⟨-, -, h1, h2⟩, hw2⟩ := hw
    exact ⟨⟨⟨by omega, by omega⟩, h.1.2⟩, goodL_wd ss tt _ l hw2 h.2⟩
  | [], _ :: _, _, _, h, _ => h.elim
  | _ :: _, [], _, _, h, _ => h.elim
theorem more_new {r o : Ros} (hr : LeR r.room o.room) (hs : WdL r.strs o.strs) {l : List Int} (hl : newB r l = true) : newB o l = true :=
  goodL_wd _ _ _ _ hs (goodL_mono _ _ _ _ hr hl)
theorem more_said {r o : Ros} (hr : ROk r) (ho : ROk o) (hm : LeR r.room o.room) (hw : WdL r.strs o.strs) (hs : someR r = true) :
    someR o = true ∧ (bestR stepsI o).1 ≤ (bestR stepsI r).1 ∧ (farN o : Int) ≤ (farN r : Int) ∧ (bestR onceI o).1 ≤ (bestR onceI r).1 := by
  obtain ⟨h1, h2, -⟩ := least_real hr hs
  have hso : someR o = true := some_of ho (more_new hm hw h1)
  refine ⟨hso, ?_, ?_, ?_⟩
  · have := (least_real ho hso).2.2 _ (more_new hm hw h1)
    unfold costL at this h2
    rw [sumW_wd (fun s t x h => h.steps x) _ _ _ hw] at this
    omega
  · obtain ⟨⟨m, hm1, hn⟩, _⟩ := far_real hr hs
    have := (far_real ho hso).2 m (farN r) (more_new hm hw hm1) (fun k h1 h2 => by
      have hk : k < r.strs.length := by rw [← hw.len]; exact h1
      rw [(hw.at k hk h1).move]
      exact hn k hk h2)
    omega
  · obtain ⟨⟨m, hm1, hn⟩, _⟩ := fewest_real hr hs
    have := (fewest_real ho hso).2 m (more_new hm hw hm1)
    unfold movedN at this hn
    rw [sumW_wd (fun s t x h => h.once x) _ _ _ hw] at this
    omega
/-- The street that can have one hour more before, or behind. -/
def wideS (s : Str) (p q : Bool) : Str := ⟨s.has, if p then s.frm - 1 else s.frm, if q then s.to + 1 else s.to, s.cost⟩
theorem wideS_wd (s : Str) (p q : Bool) : Wd s (wideS s p q) := by
  refine ⟨rfl, rfl, ?_, ?_⟩ <;> simp only [wideS]
  · split <;> omega
  · split <;> omega
theorem roomier_le {r : Ros} (h : ROk r) (k : Nat) {m : Int} (hm : 0 ≤ m) : LeR r.room (roomier r k m).room := by
  intro i
  have h1 := (h.room_le i).1
  refine ⟨h1, ?_⟩
  unfold roomier
  simp only
  rw [at_set]
  split
  · rename_i hc
    rw [show r.room.getD k 0 = at_ r.room i by unfold at_; rw [hc.1]]
    omega
  · omega
theorem roomier_strs (r : Ros) (k : Nat) (m : Int) : (roomier r k m).strs = r.strs := rfl
end Go.Proofs.YtldcehhhndlhdaaGreatDoor.Hr
/- A new roster by counts; HoursGive: the exchange of two rosters. No program here. -/
namespace Go.Proofs.YtldcehhhndlhdaaGreatDoor.Hr
/-- Each street has an hour that it can have. -/
def fitB : List Str → List Int → Bool
  | [], [] => true
  | s :: ss, h :: hs => inR h s.frm s.to && fitB ss hs
  | _, _ => false
theorem at_dec_ge {a : List Int} {h g : Int} (hne : at_ a h ≠ 0) (hh : 0 ≤ h) (hg : 0 ≤ g) : at_ (dec a h) g = if g = h then at_ a h - 1 else at_ a g := by
  rw [at_dec9 hne]
  by_cases e : g = h
  · rw [if_pos e, if_pos (by rw [e])]
  · rw [if_neg e, if_neg (by omega)]
theorem good_iff : ∀ (ss : List Str) (a l : List Int), (∀ s ∈ ss, 0 ≤ s.frm) → (∀ g, 0 ≤ g → 0 ≤ at_ a g) → (goodL ss a l = true ↔ fitB ss l = true ∧ ∀ g : Int, 0 ≤ g → (l.count g : Int) ≤ at_ a g)
  | [], a, [], _, ha => by simpa [goodL, fitB] using ha
  | [], _, _ :: _, _, _ => by simp [goodL, fitB]
  | _ :: _, _, [], _, _ => by simp [goodL, fitB]
  | s :: ss, a, h :: hs, hf, ha => by
    simp only [goodL, fitB, Bool.and_eq_true, bne_iff_ne, inR_iff]
    have hs0 := hf s (by simp)
    have hf' : ∀ t ∈ ss, 0 ≤ t.frm := fun t ht => hf t (by simp [ht])
    constructor
    · rintro ⟨⟨h1, h2⟩, h3⟩
      have hh : 0 ≤ h := by omega
      have ih := (good_iff ss (dec a h) hs hf' (fun g hg => by
        rw [at_dec_ge h2 hh hg]
        have := ha h hh
        have := ha g hg
        split <;> omega)).1 h3
      refine ⟨⟨h1, ih.1⟩, fun g hg => ?_⟩
      have := ih.2 g hg
      rw [at_dec_ge h2 hh hg] at this
      rw [List.count_cons]
      by_cases e : g = h
      · subst e
        simp at this ⊢
        omega
      · rw [if_neg e] at this
        rw [if_neg (by simp; exact fun e' => e e'.symm)]
        omega
    · rintro ⟨⟨h1, h2⟩, h3⟩
      have hh : 0 ≤ h := by omega
      have h4 := h3 h hh
      rw [List.count_cons_self] at h4
      have hne : at_ a h ≠ 0 := by omega
      refine ⟨⟨h1, hne⟩, (good_iff ss (dec a h) hs hf' (fun g hg => by
        rw [at_dec_ge hne hh hg]
        have := ha h hh
        have := ha g hg
        split <;> omega)).2 ⟨h2, fun g hg => ?_⟩⟩
      have := h3 g hg
      rw [at_dec_ge hne hh hg]
      rw [List.count_cons] at this
      by_cases e : g = h
      · subst e
        simp at this ⊢
        omega
      · rw [if_neg e]
        omega
theorem new_iff {r : Ros} (h : ROk r) {l : List Int} : newB r l = true ↔ fitB r.strs l = true ∧ ∀ g : Int, 0 ≤ g → (l.count g : Int) ≤ at_ r.room g :=
  good_iff _ _ _ (fun s hs => (h.strs s hs).frm0) (fun g _ => (h.room_le g).1)
theorem fit_iff : ∀ {ss : List Str} {l : List Int}, fitB ss l = true ↔ l.length = ss.length ∧ ∀ i (h1 : i < ss.length) (h2 : i < l.length), ss[i].frm ≤ l[i] ∧ l[i] ≤ ss[i].to
  | [], [] => by simp [fitB]
  | [], _ :: _ => by simp [fitB]
  | _ :: _, [] => by simp [fitB]
  | s :: ss, h :: hs => by
    simp only [fitB, Bool.and_eq_true, inR_iff, List.length_cons, fit_iff (ss := ss) (l := hs)]
    constructor
    · rintro ⟨h1, h2, h3⟩
      refine ⟨by omega, fun i h4 h5 => ?_⟩
      cases i with
      | zero => exact h1
      | succ i => exact h3 i (by omega) (by omega)
    · rintro ⟨h1, h2⟩
      exact ⟨h2 0 (by omega) (by omega), by omega, fun i h4 h5 => h2 (i + 1) (by omega) (by omega)⟩
theorem sumW_set (w : Str → Int → Int) : ∀ (ss : List Str) (l : List Int) (i : Nat) (g : Int) (h1 : i < ss.length) (h2 : i < l.length), sumW w ss (l.set i g) = sumW w ss l - w ss[i] l[i] + w ss[i] g
  | [], _, _, _, h1, _ => by simp at h1
  | _ :: _, [], _, _, _, h2 => by simp at h2
  | s :: ss, h :: hs, 0, g, _, _ => by simp only [List.set_cons_zero, sumW, List.getElem_cons_zero]; omega
  | s :: ss, h :: hs, i + 1, g, h1, h2 => by
    have := sumW_set w ss hs i g (by simpa using h1) (by simpa using h2)
    simp only [List.set_cons_succ, sumW, List.getElem_cons_succ]
    omega
/-- In how many places two lists are the same. -/
def agree : List Int → List Int → Nat
  | a :: as, b :: bs => (if a = b then 1 else 0) + agree as bs
  | _, _ => 0
theorem agree_le : ∀ a b : List Int, agree a b ≤ a.length
  | [], _ => by simp [agree]
  | _ :: _, [] => by simp [agree]
  | a :: as, b :: bs => by
    have := agree_le as bs
    simp only [agree, List.length_cons]
    split <;> omega
theorem agree_set : ∀ (a b : List Int) (i : Nat) (h1 : i < a.length) (h2 : i < b.length), a[i] ≠ b[i] → agree (a.set i b[i]) b = agree a b + 1
  | [], _, _, h1, _, _ => by simp at h1
  | _ :: _, [], _, _, h2, _ => by simp at h2
  | a :: as, b :: bs, 0, _, _, h => by
    simp only [List.getElem_cons_zero] at h
    simp only [List.set_cons_zero, agree, List.getElem_cons_zero, if_neg h]
    simp
    omega
  | a :: as, b :: bs, i + 1, h1, h2, h => by
    have := agree_set as bs i (by simpa using h1) (by simpa using h2) (by simpa using h)
    simp only [List.set_cons_succ, agree, List.getElem_cons_succ]
    omega
theorem count_lt_ex : ∀ (a b : List Int) (g : Int), a.length = b.length → a.count g < b.count g → ∃ i, ∃ (h1 : i < a.length) (h2 : i < b.length), b[i] = g ∧ a[i] ≠ g
  | [], [], _, _, h => by simp at h
  | [], _ :: _, _, h, _ => by simp at h
  | _ :: _, [], _, h, _ => by simp at h
  | a :: as, b :: bs, g, hl, h => by
    by_cases hc : b = g ∧ a ≠ g
    · exact ⟨0, by simp, by simp, hc⟩
    · rw [List.count_cons, List.count_cons] at h
      have : as.count g < bs.count g := by
        by_cases hb : b = g
        · have ha : a = g := Classical.byContradiction fun e => hc ⟨hb, e⟩
          simp [ha, hb] at h
          exact h
        · rw [if_neg (by simpa using hb : ¬ (b == g) = true)] at h
          omega
      obtain ⟨i, h1, h2, h3⟩ := count_lt_ex as bs g (by simpa using hl) this
      exact ⟨i + 1, by simpa using h1, by simpa using h2, h3⟩
theorem count_set' (l : List Int) (i : Nat) (g x : Int) (h : i < l.length) : ((l.set i g).count x : Int) = (l.count x : Int) - (if x = l[i] then 1 else 0) + (if x = g then 1 else 0) := by
  rw [List.count_set h]
  have hm : (if l[i] == x then 1 else 0) ≤ l.count x := by
    split
    · rename_i e
      have e : l[i] = x := by simpa using e
      exact List.count_pos_iff.2 (e ▸ List.getElem_mem h)
    · omega
  have e1 : (if l[i] == x then 1 else 0) = (if x = l[i] then 1 else 0 : Nat) := by
    by_cases e : x = l[i]
    · simp [e]
    · rw [if_neg (by simp; exact fun e' => e e'.symm), if_neg e]
  have e2 : (if g == x then 1 else 0) = (if x = g then 1 else 0 : Nat) := by
    by_cases e : x = g
    · simp [e]
    · rw [if_neg (by simp; exact fun e' => e e'.symm), if_neg e]
  rw [e1] at hm
  rw [e1, e2]
  by_cases e3 : x = l[i]
  · rw [if_pos e3] at hm
    by_cases e4 : x = g
    · simp only [if_pos e3, if_pos e4]; omega
    · simp only [if_pos e3, if_neg e4]; omega
  · by_cases e4 : x = g
    · simp only [if_neg e3, if_pos e4]; omega
    · simp only [if_neg e3, if_neg e4]; omega
/-- Two rosters, one that leaves room in an hour, one that has one more there than there is room: two others, as dear together, that are new rosters. -/
theorem cross {r : Ros} (h : ROk r) {l l' : List Int} {H : Int} (hH : 0 ≤ H) (hl : newB r l = true) (hf : fitB r.strs l' = true) (hc : ∀ g : Int, 0 ≤ g → (l'.count g : Int) ≤ at_ r.room g + if g = H then 1 else 0)
    (hr : (l.count H : Int) < at_ r.room H) (hm : at_ r.room H < (l'.count H : Int)) :
    ∀ (n : Nat) (m k : List Int) (g : Int), m.length - agree m l' ≤ n → m.length = l.length → k.length = l.length → 0 ≤ g →
      (∀ i (h1 : i < m.length) (h2 : i < k.length) (h3 : i < l.length) (h4 : i < l'.length), (m[i] = l[i] ∧ k[i] = l'[i]) ∨ (m[i] = l'[i] ∧ k[i] = l[i])) →
      (∀ x : Int, (m.count x : Int) = (l.count x : Int) + (if x = H then 1 else 0) - (if x = g then 1 else 0)) →
      (∀ x : Int, (k.count x : Int) = (l'.count x : Int) - (if x = H then 1 else 0) + (if x = g then 1 else 0)) →
      costL r.strs m + costL r.strs k = costL r.strs l + costL r.strs l' →
      ∃ m k, newB r m = true ∧ newB r k = true ∧ costL r.strs m + costL r.strs k = costL r.strs l + costL r.strs l' := by
  obtain ⟨hfl, hcl⟩ := (new_iff h).1 hl
  have hll := (fit_iff.1 hfl).1
  have hll' := (fit_iff.1 hf).1
  intro n
  induction n with
  | zero =>
    intro m k g hn hml hkl hg hmk hcm hck hcost
    exfalso
    have ha := agree_le m l'
    have : agree m l' = m.length := by omega
    have hlt : m.count g < l'.count g ∨ (g ≠ H ∧ (l'.count g : Int) < l.count g) := by
      have h1 := hcm g
      by_cases e : g = H
      · subst e
        simp at h1
        omega
      · rw [if_neg e] at h1
        simp at h1
        omega
    -- all is as in l': then no place is left
    have hme : m = l' := by
      clear hmk hcm hck hcost hlt hn
      have : ∀ (a b : List Int), a.length = b.length → agree a b = a.length → a = b := by
        intro a
        induction a with
        | nil => intro b hb _; cases b <;> simp_all
        | cons a as ih =>
          intro b hb hag
          cases b with
          | nil => simp at hb
          | cons b bs =>
            have := agree_le as bs
            simp only [agree, List.length_cons] at hag hb
            have e : a = b := by
              apply Classical.byContradiction
              intro e
              rw [if_neg e] at hag
              omega
            rw [if_pos e] at hag
            rw [e, ih bs (by omega) (by omega)]
      exact this m l' (by omega) (by omega)
    subst hme
    have h1 := hcm H
    simp at h1
    by_cases e : H = g
    · subst e
      simp at h1
      omega
    · rw [if_neg e] at h1
      omega
  | succ n ih =>
    intro m k g hn hml hkl hg hmk hcm hck hcost
    by_cases hend : g ≠ H ∧ (l'.count g : Int) < l.count g
    · refine ⟨m, k, (new_iff h).2 ⟨fit_iff.2 ⟨by omega, fun i h1 h2 => ?_⟩, fun x hx => ?_⟩, (new_iff h).2 ⟨fit_iff.2 ⟨by omega, fun i h1 h2 => ?_⟩, fun x hx => ?_⟩, hcost⟩
      · rcases hmk i h2 (by omega) (by omega) (by omega) with ⟨e, _⟩ | ⟨e, _⟩
        · rw [e]; exact (fit_iff.1 hfl).2 i h1 (by omega)
        · rw [e]; exact (fit_iff.1 hf).2 i h1 (by omega)
      · have h1 := hcm x
        have h2 := hcl x hx
        by_cases e : x = H
        · subst e
          rw [if_pos rfl] at h1
          split at h1 <;> omega
        · rw [if_neg e] at h1
          split at h1 <;> omega
      · rcases hmk i (by omega) h2 (by omega) (by omega) with ⟨_, e⟩ | ⟨_, e⟩
        · rw [e]; exact (fit_iff.1 hf).2 i h1 (by omega)
        · rw [e]; exact (fit_iff.1 hfl).2 i h1 (by omega)
      · have h1 := hck x
        have h2 := hc x hx
        have h3 := hcl x hx
        by_cases e : x = H
        · subst e
          rw [if_pos rfl] at h1 h2
          rw [if_neg (fun e => hend.1 e.symm)] at h1
          omega
        · rw [if_neg e] at h1 h2
          by_cases e2 : x = g
          · subst e2
            rw [if_pos rfl] at h1
            omega
          · rw [if_neg e2] at h1
            omega
    · have hlt : m.count g < l'.count g := by
        have h1 := hcm g
        by_cases e : g = H
        · subst e
          simp at h1
          omega
        · rw [if_neg e] at h1
          simp at h1
          have : ¬ (l'.count g : Int) < l.count g := fun e2 => hend ⟨e, e2⟩
          omega
      obtain ⟨i, h1, h2, h3, h4⟩ := count_lt_ex m l' g (by omega) hlt
      have hi := hmk i h1 (by omega) (by omega) h2
      have hmi : m[i] = l[i] ∧ k[i] = l'[i] := by
        rcases hi with hi | hi
        · exact hi
        · exact absurd (hi.1.trans h3) h4
      have hag := agree_set m l' i h1 h2 (by rw [h3]; exact h4)
      have ha := agree_le (m.set i l'[i]) l'
      rw [List.length_set] at ha
      refine ih (m.set i g) (k.set i l[i]) l[i] ?_ (by simpa using hml) (by simpa using hkl) ?_ ?_ ?_ ?_ ?_
      · rw [h3] at hag
        rw [h3] at ha
        rw [List.length_set]
        omega
      · have := (fit_iff.1 hfl).2 i (by omega) (by omega)
        have := (h.strs _ (List.getElem_mem (show i < r.strs.length by omega))).frm0
        omega
      · intro j j1 j2 j3 j4
        rw [List.getElem_set, List.getElem_set]
        by_cases e : i = j
        · subst e
          rw [if_pos rfl, if_pos rfl]
          exact .inr ⟨h3.symm, rfl⟩
        · rw [if_neg e, if_neg e]
          exact hmk j (by simpa using j1) (by simpa using j2) j3 j4
      · intro x
        rw [count_set' _ _ _ _ h1, hcm x, hmi.1]
        omega
      · intro x
        rw [count_set' _ _ _ _ (by omega), hck x, hmi.2, h3]
        omega
      · have e1 := sumW_set stepsI r.strs m i g (by omega) h1
        have e2 := sumW_set stepsI r.strs k i l[i] (by omega) (by omega)
        unfold costL at hcost ⊢
        rw [e1, e2, hmi.1, hmi.2, h3]
        omega
end Go.Proofs.YtldcehhhndlhdaaGreatDoor.Hr
/- HoursGive: the plain laws. No program here. -/
namespace Go.Proofs.YtldcehhhndlhdaaGreatDoor.Hr
theorem roomier_ok {r : Ros} (h : ROk r) {k : Nat} (hk : k < r.room.length) (h6 : r.room[k] ≠ 6) : ROk (roomier r k 1) := by
  refine ⟨by simpa [roomier] using h.rl, fun x hx => ?_, h.sl, fun s hs => by simpa [roomier] using h.so s hs⟩
  simp only [roomier] at hx
  rcases List.mem_or_eq_of_mem_set hx with hx | rfl
  · exact h.rm x hx
  · rw [List.getD_eq_getElem?_getD, List.getElem?_eq_getElem hk]
    simp only [Option.getD_some]
    have := h.rm _ (List.getElem_mem hk)
    omega
theorem roomier_at {r : Ros} {k : Nat} (hk : k < r.room.length) (g : Int) (hg : 0 ≤ g) : at_ (roomier r k 1).room g = at_ r.room g + if g = (k : Int) then 1 else 0 := by
  unfold roomier
  simp only
  rw [at_set]
  by_cases e : g = (k : Int)
  · subst e
    rw [if_pos ⟨by simp, hk⟩, if_pos rfl]
    simp [at_]
  · rw [if_neg (fun e2 => e (by omega)), if_neg e]
    omega
/-- What room for one more is worth. -/
theorem give_said {r : Ros} (h : ROk r) {k : Nat} (hk : k < r.room.length) (h6 : r.room[k] ≠ 6) (hs : someR r = true) :
    someR (roomier r k 1) = true ∧ 0 ≤ (bestR stepsI (roomier r k 1)).1 ∧ (bestR stepsI (roomier r k 1)).1 ≤ (bestR stepsI r).1 ∧
      ∀ l, newB r l = true → costL r.strs l = (bestR stepsI r).1 → (bestR stepsI (roomier r k 1)).1 ≠ (bestR stepsI r).1 → (l.count (k : Int) : Int) = r.room[k] := by
  have ho := roomier_ok h hk h6
  obtain ⟨h1, h2, -⟩ := more_said h ho (roomier_le h k (by omega)) (WdL.refl r.strs) hs
  refine ⟨h1, (least_pos ho h1).1, h2, fun l hl hc hne => ?_⟩
  have hat : at_ r.room (k : Int) = r.room[k] := by simp [at_, List.getElem?_eq_getElem hk]
  have hle := ((new_iff h).1 hl).2 (k : Int) (by omega)
  rw [hat] at hle
  apply Classical.byContradiction
  intro hlt
  obtain ⟨j1, j2, -⟩ := least_real ho h1
  obtain ⟨l', hl'⟩ : ∃ x, rosterP stepsI (roomier r k 1).strs (pad (roomier r k 1).room) = x := ⟨_, rfl⟩
  rw [hl'] at j1 j2
  obtain ⟨hf, hcl⟩ := (new_iff ho).1 j1
  have hcl' : ∀ g : Int, 0 ≤ g → (l'.count g : Int) ≤ at_ r.room g + if g = (k : Int) then 1 else 0 := fun g hg => by
    rw [← roomier_at hk g hg]
    exact hcl g hg
  rw [roomier_strs] at hf j2
  have hmin := (least_real h hs).2.2
  have hm : at_ r.room (k : Int) < (l'.count (k : Int) : Int) := by
    apply Classical.byContradiction
    intro hn
    have := hmin l' ((new_iff h).2 ⟨hf, fun g hg => by
      have := hcl' g hg
      by_cases e : g = (k : Int)
      · subst e; omega
      · rw [if_neg e] at this; omega⟩)
    omega
  have hll := (fit_iff.1 hf).1
  have hl0 := (fit_iff.1 ((new_iff h).1 hl).1).1
  obtain ⟨m, q, e1, e2, e3⟩ := cross h (H := (k : Int)) (by omega) hl hf hcl' (by rw [hat]; omega) hm l.length l l' (k : Int) (by omega) rfl (by omega) (by omega) (fun i _ _ _ _ => .inl ⟨rfl, rfl⟩) (fun x => by omega) (fun x => by omega) rfl
  have := hmin m e1
  have := hmin q e2
  omega
end Go.Proofs.YtldcehhhndlhdaaGreatDoor.Hr
/- HoursOrder, HoursBack: rosters that have the same new rosters, said otherwise. No program here. -/
namespace Go.Proofs.YtldcehhhndlhdaaGreatDoor.Hr
/-- A way from the new rosters of one to those of another, that changes no cost and no move. -/
structure Sim (r o : Ros) (f : List Int → List Int) : Prop where
  new : ∀ l, newB r l = true → newB o (f l) = true
  cost : ∀ l, newB r l = true → costL o.strs (f l) = costL r.strs l
  moved : ∀ l, newB r l = true → movedN o.strs (f l) = movedN r.strs l
  near : ∀ l n, newB r l = true → nearL n r.strs l → nearL n o.strs (f l)
theorem Sim.said {r o : Ros} {f : List Int → List Int} (h : Sim r o f) (hr : ROk r) (ho : ROk o) (hs : someR r = true) :
    someR o = true ∧ (bestR stepsI o).1 ≤ (bestR stepsI r).1 ∧ (farN o : Int) ≤ (farN r : Int) ∧ (bestR onceI o).1 ≤ (bestR onceI r).1 := by
  obtain ⟨h1, h2, -⟩ := least_real hr hs
  have hso : someR o = true := some_of ho (h.new _ h1)
  refine ⟨hso, ?_, ?_, ?_⟩
  · have := (least_real ho hso).2.2 _ (h.new _ h1)
    rw [h.cost _ h1] at this
    omega
  · obtain ⟨⟨m, hm1, hn⟩, _⟩ := far_real hr hs
    have := (far_real ho hso).2 _ (farN r) (h.new _ hm1) (h.near _ _ hm1 hn)
    omega
  · obtain ⟨⟨m, hm1, hn⟩, _⟩ := fewest_real hr hs
    have := (fewest_real ho hso).2 _ (h.new _ hm1)
    rw [h.moved _ hm1] at this
    omega
theorem Sim.same {r o : Ros} {f g : List Int → List Int} (h : Sim r o f) (h' : Sim o r g) (hr : ROk r) (ho : ROk o) :
    someR o = someR r ∧ (someR r = true → (bestR stepsI o).1 = (bestR stepsI r).1 ∧ (farN o : Int) = (farN r : Int) ∧ (bestR onceI o).1 = (bestR onceI r).1) := by
  have e : someR o = someR r := by
    cases h1 : someR r
    · cases h2 : someR o
      · rfl
      · have := (h'.said ho hr h2).1
        rw [h1] at this
        cases this
    · exact (h.said hr ho h1).1
  refine ⟨e, fun hs => ?_⟩
  obtain ⟨-, a1, a2, a3⟩ := h.said hr ho hs
  obtain ⟨-, b1, b2, b3⟩ := h'.said ho hr (e.trans hs)
  exact ⟨by omega, by omega, by omega⟩

/-! A street that has one hour alone. -/
theorem WdL.of : ∀ {ss tt : List Str}, tt.length = ss.length → (∀ k (h1 : k < ss.length) (h2 : k < tt.length), Wd ss[k] tt[k]) → WdL ss tt
  | [], [], _, _ => trivial
  | [], _ :: _, h, _ => by simp at h
  | _ :: _, [], h, _ => by simp at h
  | s :: ss, t :: tt, h, hp => ⟨hp 0 (by simp) (by simp), WdL.of (by simpa using h) (fun k h1 h2 => hp (k + 1) (Nat.succ_lt_succ h1) (Nat.succ_lt_succ h2))⟩
theorem fixS_at {r : Ros} {k : Nat} {h : Int} (i : Nat) (h1 : i < (fixS r k h).strs.length) (h2 : i < r.strs.length) : (fixS r k h).strs[i] = if i = k then ⟨r.strs[i].has, h, h, r.strs[i].cost⟩ else r.strs[i] := by
  simp only [fixS, List.getElem_modify]
  by_cases e : k = i
  · subst e; simp
  · rw [if_neg e, if_neg (fun e' => e e'.symm)]
theorem fixS_rok {r : Ros} (hv : ROk r) {k : Nat} (hk : k < r.strs.length) {h : Int} (h0 : r.strs[k].frm ≤ h) (h1 : h ≤ r.strs[k].to) : ROk (fixS r k h) := by
  have hso := hv.so _ (List.getElem_mem hk)
  have hok := fixS_ok hv k (h := h) (by have := hso.1.frm0; omega) (by have := hso.1.to1; omega)
  refine ⟨hv.rl, hv.rm, by rw [fixS_len]; exact hv.sl, fun s hs => ⟨hok s hs, ?_⟩⟩
  obtain ⟨i, hi, rfl⟩ := List.mem_iff_getElem.1 hs
  have hi' : i < r.strs.length := by rwa [fixS_len] at hi
  have hsi := (hv.so _ (List.getElem_mem hi')).2
  rw [fixS_at i hi hi']
  show _ < ((r.room.length : Nat) : Int) ∧ _
  by_cases e : i = k
  · subst e
    rw [if_pos rfl]
    exact ⟨by have := hsi.1; show h < _; omega, hsi.2⟩
  · rw [if_neg e]
    exact hsi
theorem fixS_new {r : Ros} (hv : ROk r) {k : Nat} (hk : k < r.strs.length) {h : Int} (h0 : r.strs[k].frm ≤ h) (h1 : h ≤ r.strs[k].to) {l : List Int} :
    newB (fixS r k h) l = true ↔ newB r l = true ∧ l[k]? = some h := by
  rw [new_iff hv, new_iff (fixS_rok hv hk h0 h1), fit_iff, fit_iff]
  have hfl := fixS_len r k h
  constructor
  · rintro ⟨⟨a, b⟩, c⟩
    have hat : l[k]'(by omega) = h := by
      have := b k (by rw [fixS_len]; exact hk) (by omega)
      rw [fixS_at k (by rw [fixS_len]; exact hk) hk, if_pos rfl] at this
      simp only at this
      omega
    refine ⟨⟨⟨by omega, fun i i1 i2 => ?_⟩, c⟩, by rw [List.getElem?_eq_getElem (by omega), hat]⟩
    have := b i (by rw [fixS_len]; exact i1) i2
    rw [fixS_at i (by rw [fixS_len]; exact i1) i1] at this
    by_cases e : i = k
    · subst e; rw [hat]; exact ⟨h0, h1⟩
    · rwa [if_neg e] at this
  · rintro ⟨⟨⟨a, b⟩, c⟩, d⟩
    refine ⟨⟨by omega, fun i i1 i2 => ?_⟩, c⟩
    have i1' : i < r.strs.length := by rwa [fixS_len] at i1
    rw [fixS_at i i1 i1']
    by_cases e : i = k
    · subst e
      rw [List.getElem?_eq_getElem i2] at d
      have d : l[i] = h := by simpa using d
      rw [if_pos rfl]
      simp only
      omega
    · rw [if_neg e]
      exact b i i1' i2
theorem fixS_wd {r : Ros} {k : Nat} (hk : k < r.strs.length) {h : Int} (h0 : r.strs[k].frm ≤ h) (h1 : h ≤ r.strs[k].to) : WdL (fixS r k h).strs r.strs := by
  refine WdL.of (by rw [fixS_len]) fun i i1 i2 => ?_
  rw [fixS_at i i1 i2]
  by_cases e : i = k
  · subst e
    rw [if_pos rfl]
    exact ⟨rfl, rfl, h0, h1⟩
  · rw [if_neg e]
    exact Wd.refl _
theorem bHit_iff {r : Ros} (hv : ROk r) (hs : someR r = true) {k : Nat} (hk : k < r.strs.length) {h : Int} (h0 : r.strs[k].frm ≤ h) (h1 : h ≤ r.strs[k].to) :
    bHit r k (bestR stepsI r).1 h = true ↔ ∃ l, newB r l = true ∧ costL r.strs l = (bestR stepsI r).1 ∧ l[k]? = some h := by
  have ho := fixS_rok hv hk h0 h1
  have hc : ∀ l, costL r.strs l = costL (fixS r k h).strs l := fun l => sumW_wd (fun s t x hw => hw.steps x) _ _ l (fixS_wd hk h0 h1)
  have hmin := (least_real hv hs).2.2
  unfold bHit
  rw [Bool.and_eq_true, beq_iff_eq]
  constructor
  · rintro ⟨a, b⟩
    obtain ⟨j1, j2, -⟩ := least_real ho a
    obtain ⟨j3, j4⟩ := (fixS_new hv hk h0 h1).1 j1
    exact ⟨_, j3, by rw [hc, j2, b], j4⟩
  · rintro ⟨l, a, b, c⟩
    have hn := (fixS_new hv hk h0 h1).2 ⟨a, c⟩
    have hso := some_of ho hn
    obtain ⟨j1, j2, j3⟩ := least_real ho hso
    have k1 := j3 l hn
    rw [← hc, b] at k1
    have k2 := hmin _ ((fixS_new hv hk h0 h1).1 j1).1
    rw [hc, j2] at k2
    exact ⟨hso, by omega⟩
/-- Whether a street keeps its hour: by the new rosters of the least cost. -/
def Keeps (r : Ros) (k : Nat) (P : Int → Prop) : Prop := ∃ l x, newB r l = true ∧ costL r.strs l = (bestR stepsI r).1 ∧ l[k]? = some x ∧ P x
theorem hits {r : Ros} (hv : ROk r) (hs : someR r = true) {k : Nat} (hk : k < r.strs.length) (p : Int → Bool) :
    (((List.range (wide r.strs[k])).any fun j => bHit r k (bestR stepsI r).1 (r.strs[k].frm + (j : Int)) && p (r.strs[k].frm + (j : Int))) = true) ↔ Keeps r k (fun x => p x = true) := by
  rw [List.any_eq_true]
  have hft := (hv.so _ (List.getElem_mem hk)).1.ft
  constructor
  · rintro ⟨j, hj, h⟩
    rw [Bool.and_eq_true] at h
    have hj' := List.mem_range.1 hj
    unfold wide at hj'
    obtain ⟨l, a, b, c⟩ := (bHit_iff hv hs hk (by omega) (by omega)).1 h.1
    exact ⟨l, _, a, b, c, h.2⟩
  · rintro ⟨l, x, a, b, c, d⟩
    have hf := (fit_iff.1 ((new_iff hv).1 a).1)
    have hkl : k < l.length := by have := hf.1; omega
    have hx := hf.2 k hk hkl
    rw [List.getElem?_eq_getElem hkl] at c
    have c : l[k] = x := by simpa using c
    rw [c] at hx
    refine ⟨(x - r.strs[k].frm).toNat, List.mem_range.2 (by unfold wide; omega), ?_⟩
    have e : r.strs[k].frm + ((x - r.strs[k].frm).toNat : Int) = x := by omega
    rw [e, d, Bool.and_true]
    exact (bHit_iff hv hs hk hx.1 hx.2).2 ⟨l, a, b, by rw [List.getElem?_eq_getElem hkl, c]⟩
theorem bound_val {r : Ros} (hv : ROk r) {k : Nat} (hk : k < r.strs.length) :
    (someR r = false → boundR r (k : Int) = (0, 3)) ∧ (someR r = true → boundR r (k : Int) = if r.strs[k].has = -1 then (2, 0) else if goesTo r k (bestR stepsI r).1 r.strs[k] (wide r.strs[k]) = false then (1, 0) else if staysTo r k (bestR stepsI r).1 r.strs[k] (wide r.strs[k]) = false then (2, 0) else (3, 0)) := by
  have hst : isStreet r (k : Int) = true := by unfold isStreet; rw [inR_iff]; omega
  have ha : askE r (isStreet r (k : Int)) = 0 := askE_zero.2 ⟨valid_iff.2 hv, hst⟩
  constructor
  · intro hs
    have hb : (bestR stepsI r).2 < 0 := by
      unfold someR at hs
      simpa using hs
    have e : knownR stepsI r (isStreet r (k : Int)) = (0, 3) := by unfold knownR; rw [if_pos ha, if_pos hb]
    unfold boundR
    rw [e]
    rfl
  · intro hs
    have hb : ¬ (bestR stepsI r).2 < 0 := by
      unfold someR at hs
      simpa using hs
    have e : knownR stepsI r (isStreet r (k : Int)) = ((bestR stepsI r).1, 0) := by unfold knownR; rw [if_pos ha, if_neg hb]
    unfold boundR
    rw [e]
    simp only [if_true, Int.toNat_natCast, List.getD_eq_getElem?_getD, List.getElem?_eq_getElem hk, Option.getD_some]
theorem bound_same {r o : Ros} {f g : List Int → List Int} (h : Sim r o f) (h' : Sim o r g) (hr : ROk r) (ho : ROk o) {i j : Nat} (hi : i < r.strs.length) (hj : j < o.strs.length)
    (hn : r.strs[i].has = -1 ↔ o.strs[j].has = -1)
    (hf : r.strs[i].has ≠ -1 → ∀ l, newB r l = true → ∀ x, l[i]? = some x → ∃ y, (f l)[j]? = some y ∧ (x = r.strs[i].has ↔ y = o.strs[j].has))
    (hg : r.strs[i].has ≠ -1 → ∀ l, newB o l = true → ∀ x, l[j]? = some x → ∃ y, (g l)[i]? = some y ∧ (x = o.strs[j].has ↔ y = r.strs[i].has)) :
    boundR r (i : Int) = boundR o (j : Int) := by
  obtain ⟨e, hsame⟩ := h.same h' hr ho
  obtain ⟨a1, a2⟩ := bound_val hr hi
  obtain ⟨b1, b2⟩ := bound_val ho hj
  cases hs : someR r
  · rw [a1 hs, b1 (e.trans hs)]
  · have hs2 := e.trans hs
    obtain ⟨el, -, -⟩ := hsame hs
    rw [a2 hs, b2 hs2]
    by_cases hh : r.strs[i].has = -1
    · rw [if_pos hh, if_pos (hn.1 hh)]
    · rw [if_neg hh, if_neg (fun e => hh (hn.2 e))]
      have key : ∀ (p q : Int → Bool), (∀ x y, (x = r.strs[i].has ↔ y = o.strs[j].has) → p x = q y) → (Keeps r i (fun x => p x = true) ↔ Keeps o j (fun x => q x = true)) := by
        intro p q hpq
        constructor
        · rintro ⟨l, x, k1, k2, k3, k4⟩
          obtain ⟨y, k5, k6⟩ := hf hh l k1 x k3
          exact ⟨f l, y, h.new _ k1, by rw [h.cost _ k1, k2, el], k5, (hpq x y k6).symm.trans k4⟩
        · rintro ⟨l, x, k1, k2, k3, k4⟩
          obtain ⟨y, k5, k6⟩ := hg hh l k1 x k3
          exact ⟨g l, y, h'.new _ k1, by rw [h'.cost _ k1, k2, el], k5, (hpq y x ⟨k6.2, k6.1⟩).trans k4⟩
      have g1 : goesTo r i (bestR stepsI r).1 r.strs[i] (wide r.strs[i]) = goesTo o j (bestR stepsI o).1 o.strs[j] (wide o.strs[j]) := by
        rw [Bool.eq_iff_iff]
        unfold goesTo
        rw [hits hr hs hi (fun x => x != r.strs[i].has), hits ho hs2 hj (fun x => x != o.strs[j].has)]
        exact key _ _ fun x y hxy => by
          rw [Bool.eq_iff_iff, bne_iff_ne, bne_iff_ne]
          exact not_congr hxy
      have g2 : staysTo r i (bestR stepsI r).1 r.strs[i] (wide r.strs[i]) = staysTo o j (bestR stepsI o).1 o.strs[j] (wide o.strs[j]) := by
        rw [Bool.eq_iff_iff]
        unfold staysTo
        rw [hits hr hs hi (fun x => x == r.strs[i].has), hits ho hs2 hj (fun x => x == o.strs[j].has)]
        exact key _ _ fun x y hxy => by
          rw [Bool.eq_iff_iff, beq_iff_eq, beq_iff_eq]
          exact hxy
      rw [g1, g2]

/-! The streets from another one on. -/
def rotL {α : Type} (k : Nat) (xs : List α) : List α := xs.drop k ++ xs.take k
theorem rotL_len {α : Type} (k : Nat) (xs : List α) : (rotL k xs).length = xs.length := by
  unfold rotL
  rw [List.length_append, List.length_drop, List.length_take]
  omega
theorem rotL_back {α : Type} (k : Nat) (xs : List α) : rotL (xs.length - k) (rotL k xs) = xs := by
  unfold rotL
  rw [List.drop_append_of_le_length (by simp), List.take_append_of_le_length (by simp)]
  have e : xs.length - k = (xs.drop k).length := by simp
  rw [e, List.drop_length, List.take_length, List.nil_append, List.take_append_drop]
theorem rotL_at {α : Type} (k i : Nat) (xs : List α) (h : k < xs.length) (hi : i < xs.length) : (rotL k xs)[i]? = xs[(i + k) % xs.length]? := by
  unfold rotL
  by_cases e : i < xs.length - k
  · rw [List.getElem?_append_left (by simpa using e), List.getElem?_drop, Nat.mod_eq_of_lt (by omega), Nat.add_comm]
  · rw [List.getElem?_append_right (by simpa using Nat.le_of_not_lt e), List.length_drop, List.getElem?_take, if_pos (by omega)]
    have : (i + k) % xs.length = i - (xs.length - k) := by
      rw [show i + k = i - (xs.length - k) + xs.length by omega, Nat.add_mod_right, Nat.mod_eq_of_lt (by omega)]
    rw [this]
theorem fitB_app : ∀ (a b : List Str) (c d : List Int), c.length = a.length → fitB (a ++ b) (c ++ d) = (fitB a c && fitB b d)
  | [], _, [], _, _ => by simp [fitB]
  | [], _, _ :: _, _, h => by simp at h
  | _ :: _, _, [], _, h => by simp at h
  | s :: a, b, x :: c, d, h => by
    simp only [List.cons_append, fitB]
    rw [fitB_app a b c d (by simpa using h), Bool.and_assoc]
theorem sumW_app (w : Str → Int → Int) : ∀ (a b : List Str) (c d : List Int), c.length = a.length → sumW w (a ++ b) (c ++ d) = sumW w a c + sumW w b d
  | [], _, [], _, _ => by simp [sumW]
  | [], _, _ :: _, _, h => by simp at h
  | _ :: _, _, [], _, h => by simp at h
  | s :: a, b, x :: c, d, h => by
    simp only [List.cons_append, sumW]
    rw [sumW_app w a b c d (by simpa using h)]
    omega
def rotR (r : Ros) (k : Nat) : Ros := { r with strs := rotL k r.strs }
theorem rotR_ok {r : Ros} (h : ROk r) (k : Nat) : ROk (rotR r k) := by
  refine ⟨h.rl, h.rm, by simp only [rotR]; rw [rotL_len]; exact h.sl, fun s hs => h.so s ?_⟩
  simp only [rotR, rotL, List.mem_append] at hs
  rcases hs with hs | hs
  · exact List.mem_of_mem_drop hs
  · exact List.mem_of_mem_take hs
theorem sumW_rot (w : Str → Int → Int) (k : Nat) (ss : List Str) (l : List Int) (hl : l.length = ss.length) : sumW w (rotL k ss) (rotL k l) = sumW w ss l := by
  unfold rotL
  rw [sumW_app _ _ _ _ _ (by simp [hl])]
  have e := sumW_app w (ss.take k) (ss.drop k) (l.take k) (l.drop k) (by simp [hl])
  rw [List.take_append_drop, List.take_append_drop] at e
  omega
theorem sim_rot {r : Ros} (h : ROk r) {k : Nat} (hk : k ≤ r.strs.length) : Sim r (rotR r k) (rotL k) := by
  refine ⟨fun l hl => ?_, fun l hl => ?_, fun l hl => ?_, fun l n hl hn => ?_⟩
  · obtain ⟨a, b⟩ := (new_iff h).1 hl
    have hlen := (fit_iff.1 a).1
    refine (new_iff (rotR_ok h k)).2 ⟨?_, fun g hg => ?_⟩
    · show fitB (rotL k r.strs) (rotL k l) = true
      unfold rotL
      rw [fitB_app _ _ _ _ (by simp [hlen])]
      have e := fitB_app (r.strs.take k) (r.strs.drop k) (l.take k) (l.drop k) (by simp [hlen])
      rw [List.take_append_drop, List.take_append_drop, a] at e
      rw [Bool.and_comm]
      exact e.symm
    · have := b g hg
      have e : (rotL k l).count g = l.count g := by
        unfold rotL
        rw [List.count_append, Nat.add_comm, ← List.count_append, List.take_append_drop]
      rw [e]
      exact this
  · exact sumW_rot _ _ _ _ (goodL_length _ _ _ hl)
  · exact sumW_rot _ _ _ _ (goodL_length _ _ _ hl)
  · have hlen := goodL_length _ _ _ hl
    intro i h1 h2
    have h1' : i < r.strs.length := by simp only [rotR] at h1; rwa [rotL_len] at h1
    by_cases hk2 : k < r.strs.length
    · have e1 := rotL_at k i r.strs hk2 h1'
      have e2 := rotL_at k i l (by omega) (by omega)
      have hm : (i + k) % r.strs.length < r.strs.length := Nat.mod_lt _ (by omega)
      rw [hlen] at e2
      rw [List.getElem?_eq_getElem (by rw [rotL_len]; exact h1'), List.getElem?_eq_getElem hm] at e1
      rw [List.getElem?_eq_getElem (by rw [rotL_len]; omega), List.getElem?_eq_getElem (by omega)] at e2
      injection e1 with e1
      injection e2 with e2
      simp only [rotR]
      rw [e1, e2]
      exact hn _ _ _
    · have e : rotL k r.strs = r.strs := by unfold rotL; rw [List.drop_of_length_le (by omega), List.take_of_length_le (by omega)]; rfl
      have e' : rotL k l = l := by unfold rotL; rw [List.drop_of_length_le (by omega), List.take_of_length_le (by omega)]; rfl
      simp only [rotR, e, e']
      exact hn _ _ _
theorem rotR_back {r : Ros} {k : Nat} : rotR (rotR r k) (r.strs.length - k) = r := by
  unfold rotR
  simp only
  rw [rotL_back k r.strs]
theorem sim_rot_back {r : Ros} (h : ROk r) {k : Nat} : Sim (rotR r k) r (rotL (r.strs.length - k)) := by
  have := sim_rot (rotR_ok h k) (k := r.strs.length - k) (by simp only [rotR]; rw [rotL_len]; omega)
  rwa [rotR_back] at this
end Go.Proofs.YtldcehhhndlhdaaGreatDoor.Hr
/- The span that lacks room; the hours backwards. No program here. -/
namespace Go.Proofs.YtldcehhhndlhdaaGreatDoor.Hr
/-- By how much more the streets within a span want than there is room. -/
def wants (ss : List Str) (lo hi : Int) : Nat := ss.countP fun s => decide (lo ≤ s.frm) && decide (s.to ≤ hi)
def roomIn (rm : List Int) (lo hi : Nat) : Int := ((rm.drop lo).take (hi + 1 - lo)).sum
def lacksB (r : Ros) (lo hi : Nat) : Bool := decide (roomIn r.room lo hi < (wants r.strs lo hi : Int))
/-- What 'Lack' answers. -/
def LackIs (r : Ros) (res : (Int × Int) × Int) : Prop :=
  (∃ lo hi : Nat, lo ≤ hi ∧ hi < r.room.length ∧ res = (((lo : Int), (hi : Int)), 0) ∧ lacksB r lo hi = true ∧ (∀ x : Nat, lo < x → x ≤ hi → lacksB r x hi = false) ∧ ∀ y : Nat, y < hi → ∀ x : Nat, x ≤ y → lacksB r x y = false) ∨
  (res = ((0, 0), 3) ∧ ∀ y : Nat, y < r.room.length → ∀ x : Nat, x ≤ y → lacksB r x y = false)
theorem LackIs.eq {r o : Ros} (hn : o.room.length = r.room.length) (hl : ∀ lo hi : Nat, lo ≤ hi → hi < r.room.length → lacksB o lo hi = lacksB r lo hi) {a b : (Int × Int) × Int} (ha : LackIs r a) (hb : LackIs o b) : a = b := by
  rcases ha with ⟨lo, hi, h1, h2, rfl, h3, h4, h5⟩ | ⟨rfl, h5⟩
  · rcases hb with ⟨lo', hi', k1, k2, rfl, k3, k4, k5⟩ | ⟨rfl, k5⟩
    · have e1 : hi = hi' := by
        rcases Nat.lt_trichotomy hi hi' with e | e | e
        · have := k5 hi e lo h1
          rw [hl lo hi h1 h2, h3] at this
          cases this
        · exact e
        · have := h5 hi' e lo' k1
          rw [← hl lo' hi' k1 (by omega), k3] at this
          cases this
      subst e1
      have e2 : lo = lo' := by
        rcases Nat.lt_trichotomy lo lo' with e | e | e
        · have := h4 lo' e k1
          rw [← hl lo' hi k1 h2, k3] at this
          cases this
        · exact e
        · have := k4 lo e h1
          rw [hl lo hi h1 h2, h3] at this
          cases this
      rw [e2]
    · have := k5 hi (by omega) lo h1
      rw [hl lo hi h1 h2, h3] at this
      cases this
  · rcases hb with ⟨lo', hi', k1, k2, rfl, k3, k4, k5⟩ | ⟨rfl, k5⟩
    · have := h5 hi' (by omega) lo' k1
      rw [← hl lo' hi' k1 (by omega), k3] at this
      cases this
    · rfl
theorem LackIs.code {r : Ros} {a : (Int × Int) × Int} (h : LackIs r a) : (a.2 = 0 ∧ ∃ lo hi : Nat, lo ≤ hi ∧ hi < r.room.length ∧ lacksB r lo hi = true) ∨ (a.2 = 3 ∧ ∀ hi : Nat, hi < r.room.length → ∀ lo : Nat, lo ≤ hi → lacksB r lo hi = false) := by
  rcases h with ⟨lo, hi, h1, h2, rfl, h3, h4, h5⟩ | ⟨rfl, h5⟩
  · exact .inl ⟨rfl, lo, hi, h1, h2, h3⟩
  · exact .inr ⟨rfl, h5⟩
theorem lacks_rot (r : Ros) (k : Nat) (lo hi : Nat) : lacksB (rotR r k) lo hi = lacksB r lo hi := by
  unfold lacksB wants rotR rotL
  simp only
  rw [List.countP_append, Nat.add_comm, ← List.countP_append, List.take_append_drop]

/-! The hours backwards. -/
def backS (n : Int) (s : Str) : Str := ⟨if s.has = -1 then s.has else n - s.has, n - s.to, n - s.frm, s.cost⟩
def lastH (r : Ros) : Int := (r.room.length : Int) - 1
def backR (r : Ros) : Ros := ⟨r.room.reverse, r.strs.map (backS (lastH r))⟩
theorem backR_last (r : Ros) : lastH (backR r) = lastH r := by simp [lastH, backR]
theorem backS_move {n : Int} {s : Str} (h : s.has = -1 ∨ (0 ≤ s.has ∧ s.has ≤ n)) (x : Int) : moveI (backS n s) (n - x) = moveI s x := by
  unfold moveI backS
  rcases h with h | h
  · simp [h]
  · rw [if_neg (show ¬ s.has = -1 by omega)]
    simp only
    rw [if_neg (by omega), if_neg (by omega)]
    omega
theorem backS_back {n : Int} {s : Str} (h : s.has = -1 ∨ (0 ≤ s.has ∧ s.has ≤ n)) : backS n (backS n s) = s := by
  obtain ⟨a, b, c, d⟩ := s
  unfold backS
  rcases h with h | h
  · simp only at h
    subst h
    simp only [if_true, Str.mk.injEq, true_and, and_true]
    omega
  · simp only at h
    simp only [Str.mk.injEq, and_true]
    rw [if_neg (show ¬ a = -1 by omega), if_neg (show ¬ n - a = -1 by omega)]
    omega
theorem ROk.hasIn {r : Ros} (h : ROk r) {s : Str} (hs : s ∈ r.strs) : s.has = -1 ∨ (0 ≤ s.has ∧ s.has ≤ lastH r) := by
  have a := h.so s hs
  have := a.1.has0
  have := a.2.2
  unfold lastH
  omega
theorem backR_ok {r : Ros} (h : ROk r) : ROk (backR r) := by
  refine ⟨by simp [backR, h.rl], fun x hx => h.rm x (by simpa [backR] using hx), by simp [backR, h.sl], fun s hs => ?_⟩
  simp only [backR, List.mem_map] at hs
  obtain ⟨t, ht, rfl⟩ := hs
  have a := h.so t ht
  have b := h.hasIn ht
  have c := h.rl
  have e : ((backR r).room.length : Int) = lastH r + 1 := by simp [backR, lastH]
  rw [e]
  have a1 := a.1.frm0
  have a2 := a.1.ft
  have a3 := a.2.1
  have hn : lastH r = (r.room.length : Int) - 1 := rfl
  refine ⟨⟨?_, ?_, ?_, ?_, ?_, a.1.cost0, a.1.cost1⟩, ?_, ?_⟩ <;> simp only [backS]
  · split <;> omega
  · split <;> omega
  · omega
  · omega
  · omega
  · omega
  · split <;> omega
theorem backR_back {r : Ros} (h : ROk r) : backR (backR r) = r := by
  have e := backR_last r
  obtain ⟨rm, ss⟩ := r
  unfold backR at e ⊢
  simp only at e
  rw [e]
  simp only [List.reverse_reverse, List.map_map, Ros.mk.injEq, true_and]
  have hb : ∀ s ∈ ss, (backS (lastH ⟨rm, ss⟩) ∘ backS (lastH ⟨rm, ss⟩)) s = id s := fun s hs => backS_back (h.hasIn hs)
  rw [List.map_congr_left hb, List.map_id]
theorem sumW_back {w : Str → Int → Int} {n : Int} : ∀ (ss : List Str) (l : List Int), (∀ s ∈ ss, ∀ x, w (backS n s) (n - x) = w s x) → sumW w (ss.map (backS n)) (l.map (n - ·)) = sumW w ss l
  | [], _, _ => by simp [sumW]
  | _ :: _, [], _ => by simp [sumW]
  | s :: ss, x :: l, h => by
    simp only [List.map_cons, sumW]
    rw [h s (by simp), sumW_back ss l (fun t ht => h t (by simp [ht]))]
theorem at_reverse (l : List Int) (g : Nat) (h : g < l.length) : at_ l.reverse (g : Int) = at_ l ((l.length : Int) - 1 - g) := by
  unfold at_
  rw [List.getD_eq_getElem?_getD, List.getD_eq_getElem?_getD, Int.toNat_natCast, List.getElem?_reverse h]
  congr 2
  omega
theorem sim_back {r : Ros} (h : ROk r) : Sim r (backR r) (List.map (lastH r - ·)) := by
  have hmv : ∀ s ∈ r.strs, ∀ x, moveI (backS (lastH r) s) (lastH r - x) = moveI s x := fun s hs x => backS_move (h.hasIn hs) x
  refine ⟨fun l hl => ?_, fun l _ => ?_, fun l _ => ?_, fun l n _ hn => ?_⟩
  · obtain ⟨a, b⟩ := (new_iff h).1 hl
    obtain ⟨a1, a2⟩ := fit_iff.1 a
    refine (new_iff (backR_ok h)).2 ⟨fit_iff.2 ⟨by simp [backR, a1], fun i h1 h2 => ?_⟩, fun g hg => ?_⟩
    · have i1 : i < r.strs.length := by simpa [backR] using h1
      have i2 : i < l.length := by simpa using h2
      have := a2 i i1 i2
      simp only [backR, List.getElem_map, backS]
      omega
    · have e : (l.map (lastH r - ·)).count g = l.count (lastH r - g) := by
        rw [List.count_eq_countP, List.count_eq_countP, List.countP_map]
        refine List.countP_congr fun x _ => ?_
        simp only [Function.comp, beq_iff_eq]
        omega
      rw [e]
      have hn : lastH r = (r.room.length : Int) - 1 := rfl
      by_cases hgn : g ≤ lastH r
      · obtain ⟨g, rfl⟩ := Int.eq_ofNat_of_zero_le hg
        have := b (lastH r - g) (by omega)
        rw [show (backR r).room = r.room.reverse from rfl, at_reverse _ _ (by omega)]
        exact this
      · have hz : l.count (lastH r - g) = 0 := by
          rw [List.count_eq_zero]
          intro hm
          obtain ⟨i, hi, e⟩ := List.mem_iff_getElem.1 hm
          have := a2 i (by omega) hi
          have := (h.strs _ (List.getElem_mem (show i < r.strs.length by omega))).frm0
          omega
        rw [hz]
        exact ((backR_ok h).room_le g).1
  · exact sumW_back _ _ fun s hs x => by unfold stepsI; rw [hmv s hs x]; rfl
  · exact sumW_back _ _ fun s hs x => by unfold onceI; rw [hmv s hs x]
  · intro i h1 h2
    have i1 : i < r.strs.length := by simpa [backR] using h1
    have i2 : i < l.length := by simpa using h2
    simp only [backR, List.getElem_map]
    rw [hmv _ (List.getElem_mem i1)]
    exact hn i i1 i2
theorem sim_back' {r : Ros} (h : ROk r) : Sim (backR r) r (List.map (lastH r - ·)) := by
  have := sim_back (backR_ok h)
  rwa [backR_back h, backR_last] at this
theorem bound_back {r : Ros} (h : ROk r) {k : Nat} (hk : k < r.strs.length) : boundR r (k : Int) = boundR (backR r) (k : Int) := by
  have hk2 : k < (backR r).strs.length := by simpa [backR] using hk
  have hh := h.hasIn (List.getElem_mem hk)
  have hn : 0 ≤ lastH r := by
    have a := h.so _ (List.getElem_mem hk)
    have := a.1.frm0
    have := a.1.ft
    have := a.2.1
    unfold lastH
    omega
  have he : (backR r).strs[k].has = if r.strs[k].has = -1 then r.strs[k].has else lastH r - r.strs[k].has := by simp [backR, backS]
  refine bound_same (sim_back h) (sim_back' h) h (backR_ok h) hk hk2 ?_ ?_ ?_
  · rw [he]
    split <;> omega
  · intro hne l hl x hx
    refine ⟨lastH r - x, by rw [List.getElem?_map, hx]; rfl, ?_⟩
    rw [he, if_neg hne]
    omega
  · intro hne l hl x hx
    refine ⟨lastH r - x, by rw [List.getElem?_map, hx]; rfl, ?_⟩
    rw [he, if_neg hne]
    omega
theorem least_back {r : Ros} (h : ROk r) : leastR (backR r) = leastR r := by
  obtain ⟨e, hs⟩ := (sim_back h).same (sim_back' h) h (backR_ok h)
  rw [least_val h, least_val (backR_ok h), e]
  cases hsr : someR r
  · rfl
  · rw [(hs hsr).1]
theorem roomier_back {r : Ros} {k : Nat} (hk : k < r.room.length) : roomier (backR r) (r.room.length - 1 - k) 1 = backR (roomier r k 1) := by
  have hl : lastH (roomier r k 1) = lastH r := by simp [lastH, roomier]
  unfold roomier backR at *
  simp only [Ros.mk.injEq] at *
  rw [hl]
  refine ⟨?_, rfl⟩
  refine List.ext_getElem? fun i => ?_
  have e : (r.room.reverse).getD (r.room.length - 1 - k) 0 = r.room.getD k 0 := by
    rw [List.getD_eq_getElem?_getD, List.getD_eq_getElem?_getD, List.getElem?_reverse (by omega)]
    congr 2
    omega
  rw [e]
  by_cases hi : i < r.room.length
  · rw [List.getElem?_reverse (by simpa using hi), List.length_set]
    rw [List.getElem?_set, List.getElem?_set, List.length_reverse, List.getElem?_reverse hi]
    by_cases e2 : i = r.room.length - 1 - k
    · rw [if_pos e2.symm, if_pos (by omega), if_pos (by omega), if_pos (by omega)]
    · rw [if_neg (fun e' => e2 e'.symm), if_neg (by omega)]
  · rw [List.getElem?_eq_none (by simpa using hi), List.getElem?_eq_none (by simpa using hi)]
theorem give_back {r : Ros} (h : ROk r) {k : Nat} (hk : k < r.room.length) : giveR r (k : Int) = giveR (backR r) (lastH r - k) := by
  have e1 : isHour r (k : Int) = true := by unfold isHour; rw [inR_iff]; omega
  have e2 : isHour (backR r) (lastH r - k) = true := by
    have : ((backR r).room.length : Int) = r.room.length := by simp [backR]
    unfold isHour
    rw [inR_iff, this]
    unfold lastH
    omega
  have a1 : askE r (isHour r (k : Int)) = 0 := askE_zero.2 ⟨valid_iff.2 h, e1⟩
  have a2 : askE (backR r) (isHour (backR r) (lastH r - k)) = 0 := askE_zero.2 ⟨valid_iff.2 (backR_ok h), e2⟩
  have e3 : (lastH r - k).toNat = r.room.length - 1 - k := by unfold lastH; omega
  have e4 : (backR r).room.getD (r.room.length - 1 - k) 0 = r.room.getD k 0 := by
    show r.room.reverse.getD _ 0 = _
    rw [List.getD_eq_getElem?_getD, List.getD_eq_getElem?_getD, List.getElem?_reverse (by omega)]
    congr 2
    omega
  unfold giveR
  rw [if_pos a1, if_pos a2, e3, Int.toNat_natCast, e4, least_back h, roomier_back hk]
  by_cases h6 : r.room.getD k 0 = 6
  · rw [if_pos h6, if_pos h6]
  · rw [if_neg h6, if_neg h6]
    have hk6 : r.room[k] ≠ 6 := by
      rw [List.getD_eq_getElem?_getD, List.getElem?_eq_getElem hk] at h6
      exact h6
    rw [least_back (roomier_ok h hk hk6)]
theorem lacks_back {r : Ros} {lo hi : Nat} (h1 : lo ≤ hi) (h2 : hi < r.room.length) : lacksB (backR r) lo hi = lacksB r (r.room.length - 1 - hi) (r.room.length - 1 - lo) := by
  have ew : wants (backR r).strs (lo : Int) (hi : Int) = wants r.strs ((r.room.length - 1 - hi : Nat) : Int) ((r.room.length - 1 - lo : Nat) : Int) := by
    unfold wants backR
    simp only
    rw [List.countP_map]
    refine List.countP_congr fun s _ => ?_
    simp only [Function.comp, Bool.and_eq_true, decide_eq_true_eq]
    show ((lo : Int) ≤ lastH r - s.to ∧ lastH r - s.frm ≤ (hi : Int)) ↔ _
    unfold lastH
    omega
  have er : roomIn (backR r).room lo hi = roomIn r.room (r.room.length - 1 - hi) (r.room.length - 1 - lo) := by
    unfold roomIn backR
    simp only
    rw [List.drop_reverse, List.take_reverse, List.sum_reverse]
    congr 1
    rw [List.length_take, List.drop_take]
    have e1 : min (r.room.length - lo) r.room.length - (hi + 1 - lo) = r.room.length - 1 - hi := by omega
    have e2 : r.room.length - lo - (r.room.length - 1 - hi) = r.room.length - 1 - lo + 1 - (r.room.length - 1 - hi) := by omega
    rw [e1, e2]
  unfold lacksB
  rw [ew, er]
theorem lack_back {r : Ros} {a b : (Int × Int) × Int} (ha : LackIs r a) (hb : LackIs (backR r) b) : a.2 = b.2 := by
  have hl : (backR r).room.length = r.room.length := by simp [backR]
  rcases ha.code with ⟨h1, lo, hi, h2, h3, h4⟩ | ⟨h1, h2⟩
  · rcases hb.code with ⟨k1, _⟩ | ⟨k1, k2⟩
    · rw [h1, k1]
    · have := k2 (r.room.length - 1 - lo) (by omega) (r.room.length - 1 - hi) (by omega)
      rw [lacks_back (by omega) (by omega)] at this
      rw [show r.room.length - 1 - (r.room.length - 1 - lo) = lo by omega, show r.room.length - 1 - (r.room.length - 1 - hi) = hi by omega, h4] at this
      cases this
  · rcases hb.code with ⟨k1, lo, hi, k2, k3, k4⟩ | ⟨k1, _⟩
    · rw [lacks_back k2 (by omega)] at k4
      rw [h2 _ (by omega) _ (by omega)] at k4
      cases k4
    · rw [h1, k1]
end Go.Proofs.YtldcehhhndlhdaaGreatDoor.Hr
/- HoursOrder, HoursBack: what the loops make. No program here. -/
namespace Go.Proofs.YtldcehhhndlhdaaGreatDoor.Hr
/-- The streets from the B-th on, as far as the loop has come. -/
def rotTo {α : Type} (ss : List α) (B k : Nat) : List α := (rotL (B % ss.length) ss).take k ++ ss.drop k
theorem rotTo_len {α : Type} (ss : List α) (B k : Nat) (h : k ≤ ss.length) : (rotTo ss B k).length = ss.length := by
  unfold rotTo
  rw [List.length_append, List.length_take, List.length_drop, rotL_len]
  omega
theorem rotTo_zero {α : Type} (ss : List α) (B : Nat) : rotTo ss B 0 = ss := by simp [rotTo]
theorem rotTo_all {α : Type} (ss : List α) (B : Nat) : rotTo ss B ss.length = rotL (B % ss.length) ss := by
  unfold rotTo
  rw [List.drop_length, List.append_nil, List.take_of_length_le (by rw [rotL_len]; omega)]
theorem set_mid {α : Type} : ∀ (a b : List α) (k : Nat), a.length = b.length → (h : k < a.length) → (a.take k ++ b.drop k).set k a[k] = a.take (k + 1) ++ b.drop (k + 1)
  | [], _, _, _, h => by simp at h
  | _ :: _, [], _, h, _ => by simp at h
  | a :: as, b :: bs, 0, _, _ => by simp
  | a :: as, b :: bs, k + 1, h1, h2 => by
    have := set_mid as bs k (by simpa using h1) (by simpa using h2)
    simp only [List.take_succ_cons, List.drop_succ_cons, List.cons_append, List.set_cons_succ, List.getElem_cons_succ]
    rw [this]
theorem rotTo_succ {α : Type} (ss : List α) (B k : Nat) (h : k < ss.length) (hm : (k + B) % ss.length < ss.length) : (rotTo ss B k).set k ss[(k + B) % ss.length] = rotTo ss B (k + 1) := by
  have hk : k < (rotL (B % ss.length) ss).length := by rw [rotL_len]; exact h
  have e := rotL_at (B % ss.length) k ss (Nat.mod_lt _ (by omega)) h
  rw [Nat.add_mod_mod, List.getElem?_eq_getElem hk, List.getElem?_eq_getElem hm] at e
  injection e with e
  unfold rotTo
  rw [← e]
  exact set_mid _ _ k (rotL_len _ _) hk
theorem bound_rot {r : Ros} (h : ROk r) {i B : Nat} (hi : i < r.strs.length) : boundR (rotR r (B % r.strs.length)) (i : Int) = boundR r (((i + B) % r.strs.length : Nat) : Int) := by
  obtain ⟨n, hn⟩ : ∃ x, r.strs.length = x := ⟨_, rfl⟩
  obtain ⟨k, hk⟩ : ∃ x, B % n = x := ⟨_, rfl⟩
  have hkn : k < n := by rw [← hk]; exact Nat.mod_lt _ (by omega)
  have hj : (i + k) % n < n := Nat.mod_lt _ (by omega)
  rw [show (i + B) % r.strs.length = (i + k) % n by rw [hn, ← hk, Nat.add_mod_mod], hn, hk]
  have hi2 : i < (rotR r k).strs.length := by simp only [rotR]; rw [rotL_len]; exact hi
  have hj2 : (i + k) % n < r.strs.length := by rw [hn]; exact hj
  have e := rotL_at k i r.strs (by omega) hi
  rw [List.getElem?_eq_getElem (by rw [rotL_len]; exact hi)] at e
  simp only [hn] at e
  rw [List.getElem?_eq_getElem hj2] at e
  injection e with e
  have hs : (rotR r k).strs[i] = r.strs[(i + k) % n] := e
  refine (bound_same (sim_rot h (by omega)) (sim_rot_back h (k := k)) h (rotR_ok h k) hj2 hi2 (by rw [hs]) (fun _ l hl x hx => ?_) (fun _ l hl x hx => ?_)).symm
  · have hlen := goodL_length _ _ _ hl
    have e2 := rotL_at k i l (by omega) (by omega)
    rw [hlen, hn] at e2
    exact ⟨x, e2.trans hx, by rw [hs]⟩
  · have hlen : l.length = n := by
      have := goodL_length _ _ _ hl
      simp only [rotR] at this
      rw [rotL_len] at this
      omega
    refine ⟨x, ?_, by rw [hs]⟩
    have e1 : rotL k (rotL (n - k) l) = l := by
      have := rotL_back (n - k) l
      rw [hlen, show n - (n - k) = k by omega] at this
      exact this
    have e2 := rotL_at k i (rotL (n - k) l) (by rw [rotL_len]; omega) (by rw [rotL_len]; omega)
    rw [e1, rotL_len, hlen] at e2
    rw [hn]
    exact e2.symm.trans hx
/-- What 'three' says. -/
def thr (r : Ros) : Int × Int × Int × Bool := if someR r = true then ((bestR stepsI r).1, (farN r : Int), (bestR onceI r).1, true) else (0, 0, 0, false)
theorem thr_same {r o : Ros} {f g : List Int → List Int} (h : Sim r o f) (h' : Sim o r g) (hr : ROk r) (ho : ROk o) : thr o = thr r := by
  obtain ⟨e, hs⟩ := h.same h' hr ho
  unfold thr
  rw [e]
  by_cases hsr : someR r = true
  · obtain ⟨a, b, c⟩ := hs hsr
    rw [if_pos hsr, if_pos hsr, a, b, c]
  · rw [if_neg hsr, if_neg hsr]
end Go.Proofs.YtldcehhhndlhdaaGreatDoor.Hr
/- HoursEach: there is a new roster just if no span lacks room. No program here. -/
namespace Go.Proofs.YtldcehhhndlhdaaGreatDoor.Hr
def inS (lo hi x : Int) : Bool := decide (lo ≤ x) && decide (x ≤ hi)
theorem inS_iff {lo hi x : Int} : inS lo hi x = true ↔ lo ≤ x ∧ x ≤ hi := by simp [inS]
theorem countP_succ (l : List Int) (lo hi : Int) (h : lo ≤ hi + 1) : l.countP (inS lo (hi + 1)) = l.countP (inS lo hi) + l.count (hi + 1) := by
  induction l with
  | nil => simp
  | cons x l ih =>
    rw [List.countP_cons, List.countP_cons, List.count_cons, ih]
    by_cases e : x = hi + 1
    · subst e
      rw [if_pos (inS_iff.2 ⟨h, by omega⟩), if_neg (by rw [inS_iff]; omega), if_pos (by simp)]
      omega
    · rw [if_neg (show ¬ (x == hi + 1) = true by simpa using e)]
      by_cases e2 : inS lo hi x = true
      · rw [if_pos e2, if_pos (inS_iff.2 (by have := inS_iff.1 e2; omega))]
        omega
      · rw [if_neg e2, if_neg (by rw [inS_iff] at e2 ⊢; omega)]
        omega
theorem sum_succ {rm : List Int} {lo k : Nat} (h : lo + k < rm.length) : ((rm.drop lo).take (k + 1)).sum = ((rm.drop lo).take k).sum + at_ rm ((lo + k : Nat) : Int) := by
  rw [List.take_succ_eq_append_getElem (by rw [List.length_drop]; omega), List.sum_append, List.getElem_drop]
  have : at_ rm ((lo + k : Nat) : Int) = rm[lo + k] := by
    unfold at_
    rw [Int.toNat_natCast, List.getD_eq_getElem?_getD, List.getElem?_eq_getElem h]
    rfl
  rw [this]
  simp
theorem count_none (l : List Int) (lo : Int) : l.countP (inS lo (lo - 1)) = 0 := by
  rw [List.countP_eq_zero]
  intro x _
  rw [inS_iff]
  omega
/-- As many as there is room for, or less; just as many, if all is full. -/
theorem count_room (l : List Int) (rm : List Int) (lo : Nat) : ∀ m, lo + m ≤ rm.length →
    ((∀ x : Nat, lo ≤ x → x < lo + m → (l.count (x : Int) : Int) ≤ at_ rm x) → (l.countP (inS lo ((lo : Int) + m - 1)) : Int) ≤ ((rm.drop lo).take m).sum) ∧
    ((∀ x : Nat, lo ≤ x → x < lo + m → (l.count (x : Int) : Int) = at_ rm x) → (l.countP (inS lo ((lo : Int) + m - 1)) : Int) = ((rm.drop lo).take m).sum)
  | 0, _ => by
    have e : (lo : Int) + ((0 : Nat) : Int) - 1 = lo - 1 := by omega
    rw [e, count_none]
    simp
  | m + 1, h => by
    obtain ⟨h1, h2⟩ := count_room l rm lo m (by omega)
    have e : (lo : Int) + ((m + 1 : Nat) : Int) - 1 = ((lo : Int) + m - 1) + 1 := by omega
    have e2 : ((lo : Int) + m - 1) + 1 = ((lo + m : Nat) : Int) := by omega
    rw [e, countP_succ l lo _ (by omega), sum_succ (by omega), e2]
    constructor
    · intro hx
      have := h1 fun x a b => hx x a (by omega)
      have := hx (lo + m) (by omega) (by omega)
      omega
    · intro hx
      have := h2 fun x a b => hx x a (by omega)
      have := hx (lo + m) (by omega) (by omega)
      omega
theorem wants_le : ∀ (ss : List Str) (l : List Int) (lo hi : Int), fitB ss l = true → wants ss lo hi ≤ l.countP (inS lo hi)
  | [], [], _, _, _ => by simp [wants]
  | [], _ :: _, _, _, h => by simp [fitB] at h
  | _ :: _, [], _, _, h => by simp [fitB] at h
  | s :: ss, x :: l, lo, hi, h => by
    simp only [fitB, Bool.and_eq_true, inR_iff] at h
    have ih := wants_le ss l lo hi h.2
    unfold wants at ih ⊢
    rw [List.countP_cons, List.countP_cons]
    by_cases e : (decide (lo ≤ s.frm) && decide (s.to ≤ hi)) = true
    · have e' := e
      simp only [Bool.and_eq_true, decide_eq_true_eq] at e'
      rw [if_pos e, if_pos (inS_iff.2 (by omega))]
      omega
    · rw [if_neg e]
      omega
theorem wants_ge : ∀ (ss : List Str) (l : List Int) (lo hi : Int), l.length = ss.length → (∀ i (h1 : i < ss.length) (h2 : i < l.length), lo ≤ l[i] ∧ l[i] ≤ hi → lo ≤ ss[i].frm ∧ ss[i].to ≤ hi) → l.countP (inS lo hi) ≤ wants ss lo hi
  | [], [], _, _, _, _ => by simp
  | [], _ :: _, _, _, h, _ => by simp at h
  | _ :: _, [], _, _, h, _ => by simp at h
  | s :: ss, x :: l, lo, hi, h, hp => by
    have ih := wants_ge ss l lo hi (by simpa using h) (fun i h1 h2 => hp (i + 1) (Nat.succ_lt_succ h1) (Nat.succ_lt_succ h2))
    unfold wants at ih ⊢
    rw [List.countP_cons, List.countP_cons]
    by_cases e : inS lo hi x = true
    · have := hp 0 (by simp) (by simp) (inS_iff.1 e)
      simp only [List.getElem_cons_zero] at this
      rw [if_pos e, if_pos (by simp [this.1, this.2])]
      omega
    · rw [if_neg e]
      omega
theorem no_lack {r : Ros} (h : ROk r) (hs : someR r = true) {lo hi : Nat} (h1 : lo ≤ hi) (h2 : hi < r.room.length) : lacksB r lo hi = false := by
  obtain ⟨hn, -, -⟩ := least_real h hs
  obtain ⟨l, hl⟩ : ∃ x, rosterP stepsI r.strs (pad r.room) = x := ⟨_, rfl⟩
  rw [hl] at hn
  obtain ⟨a, b⟩ := (new_iff h).1 hn
  have c := wants_le r.strs l lo hi a
  have d := (count_room l r.room lo (hi + 1 - lo) (by omega)).1 fun x _ _ => b x (by omega)
  rw [show (lo : Int) + ((hi + 1 - lo : Nat) : Int) - 1 = hi by omega] at d
  unfold lacksB roomIn
  rw [decide_eq_false_iff_not]
  omega

/-! One street more: moves to hours that have room. -/
inductive Mv (rm : List Int) (ss : List Str) (l : List Int) : List Int → Prop
  | refl : Mv rm ss l l
  | step {l' : List Int} (i : Nat) (g : Int) (h1 : i < ss.length) (h2 : i < l'.length) : Mv rm ss l l' → ss[i].frm ≤ g → g ≤ ss[i].to → (l'.count g : Int) < at_ rm g → Mv rm ss l (l'.set i g)
def FitR (rm : List Int) (ss : List Str) (l : List Int) : Prop := fitB ss l = true ∧ ∀ g : Int, 0 ≤ g → (l.count g : Int) ≤ at_ rm g
theorem Mv.fit {rm : List Int} {ss : List Str} {l l' : List Int} (h : Mv rm ss l l') (hl : FitR rm ss l) : FitR rm ss l' := by
  induction h with
  | refl => exact hl
  | step i g h1 h2 _ h3 h4 h5 ih =>
    obtain ⟨a, b⟩ := ih
    obtain ⟨a1, a2⟩ := fit_iff.1 a
    refine ⟨fit_iff.2 ⟨by simpa using a1, fun j j1 j2 => ?_⟩, fun x hx => ?_⟩
    · rw [List.getElem_set]
      by_cases e : i = j
      · subst e; rw [if_pos rfl]; exact ⟨h3, h4⟩
      · rw [if_neg e]; exact a2 j j1 (by simpa using j2)
    · rw [count_set' _ _ _ _ h2]
      have := b x hx
      by_cases e : x = g
      · subst e
        rw [if_pos rfl]
        split <;> omega
      · rw [if_neg e]
        split <;> omega
/-- The hour can have room. -/
def Av (rm : List Int) (ss : List Str) (l : List Int) (g : Int) : Prop := ∃ l', Mv rm ss l l' ∧ (l'.count g : Int) < at_ rm g
theorem Av.of_move {rm : List Int} {ss : List Str} {l l' : List Int} (hl : FitR rm ss l) (h : Mv rm ss l l') {i : Nat} {g : Int} (h1 : i < ss.length) (h2 : i < l'.length) (h3 : ss[i].frm ≤ g) (h4 : g ≤ ss[i].to) (h5 : (l'.count g : Int) < at_ rm g) (h0 : 0 ≤ l'[i]) : Av rm ss l l'[i] := by
  by_cases e : g = l'[i]
  · rw [← e]
    exact ⟨l', h, h5⟩
  · refine ⟨l'.set i g, h.step i g h1 h2 h3 h4 h5, ?_⟩
    rw [count_set' _ _ _ _ h2, if_pos rfl, if_neg (fun e' => e e'.symm)]
    have := (h.fit hl).2 _ h0
    omega
theorem low_edge (P : Nat → Prop) : ∀ n, ¬ P n → ∃ lo, lo ≤ n ∧ (∀ x, lo ≤ x → x ≤ n → ¬ P x) ∧ (lo = 0 ∨ P (lo - 1))
  | 0, h => ⟨0, Nat.le_refl _, fun x _ h2 => (show x = 0 by omega) ▸ h, .inl rfl⟩
  | n + 1, h => by
    by_cases hp : P n
    · exact ⟨n + 1, Nat.le_refl _, fun x h1 h2 => (show x = n + 1 by omega) ▸ h, .inr hp⟩
    · obtain ⟨lo, h1, h2, h3⟩ := low_edge P n hp
      refine ⟨lo, by omega, fun x a b => ?_, h3⟩
      by_cases e : x = n + 1
      · subst e; exact h
      · exact h2 x a (by omega)
theorem high_edge (P : Nat → Prop) (n : Nat) (hn : ¬ P n) : ∀ N, n < N → ∃ hi, n ≤ hi ∧ hi < N ∧ (∀ x, n ≤ x → x ≤ hi → ¬ P x) ∧ (hi + 1 = N ∨ P (hi + 1))
  | 0, h => by omega
  | N + 1, h => by
    by_cases e : n = N
    · subst e
      exact ⟨n, Nat.le_refl _, by omega, fun x a b => (show x = n by omega) ▸ hn, .inl rfl⟩
    · obtain ⟨hi, h1, h2, h3, h4⟩ := high_edge P n hn N (by omega)
      rcases h4 with h4 | h4
      · by_cases hp : P (hi + 1)
        · exact ⟨hi, h1, by omega, h3, .inr hp⟩
        · refine ⟨hi + 1, by omega, by omega, fun x a b => ?_, .inl (by omega)⟩
          by_cases e2 : x = hi + 1
          · subst e2; exact hp
          · exact h3 x a (by omega)
      · exact ⟨hi, h1, by omega, h3, .inr h4⟩
theorem hall_step {rm : List Int} {s : Str} {ss : List Str} {l : List Int} (hl : FitR rm ss l) (h0 : 0 ≤ s.frm) (hft : s.frm ≤ s.to) (ht : s.to < rm.length) (hss : ∀ t ∈ ss, 0 ≤ t.frm ∧ t.to < rm.length)
    (hno : ∀ lo hi : Nat, lo ≤ hi → hi < rm.length → lacksB ⟨rm, s :: ss⟩ lo hi = false) : ∃ g, s.frm ≤ g ∧ g ≤ s.to ∧ Av rm ss l g := by
  apply Classical.byContradiction
  intro hn
  have hna : ∀ g, s.frm ≤ g → g ≤ s.to → ¬ Av rm ss l g := fun g a b c => hn ⟨g, a, b, c⟩
  obtain ⟨f, hf⟩ := Int.eq_ofNat_of_zero_le h0
  obtain ⟨u, hu⟩ := Int.eq_ofNat_of_zero_le (show 0 ≤ s.to by omega)
  obtain ⟨lo, l1, l2, l3⟩ := low_edge (fun x => Av rm ss l (x : Int)) f (hna _ (by omega) (by omega))
  obtain ⟨hi, k1, k2, k3, k4⟩ := high_edge (fun x => Av rm ss l (x : Int)) u (hna _ (by omega) (by omega)) rm.length (by omega)
  have hB : ∀ x : Int, (lo : Int) ≤ x → x ≤ (hi : Int) → ¬ Av rm ss l x := fun x a b => by
    obtain ⟨x, rfl⟩ := Int.eq_ofNat_of_zero_le (show 0 ≤ x by omega)
    by_cases e : x ≤ f
    · exact l2 x (by omega) e
    · by_cases e2 : u ≤ x
      · exact k3 x e2 (by omega)
      · exact hna x (by omega) (by omega)
  have hlen := (fit_iff.1 hl.1).1
  -- who has an hour of the span stays there
  have hstay : ∀ l', Mv rm ss l l' → ∀ i (i1 : i < l.length) (i2 : i < l'.length), (lo : Int) ≤ l[i] → l[i] ≤ (hi : Int) → l'[i] = l[i] := by
    intro l' hm
    induction hm with
    | refl => intro i _ _ _ _; rfl
    | step j g j1 j2 hm h3 h4 h5 ih =>
      intro i i1 i2 a b
      rw [List.getElem_set]
      by_cases e : j = i
      · subst e
        exfalso
        have e2 := ih j i1 j2 a b
        have := Av.of_move hl hm j1 j2 h3 h4 h5 (by omega)
        rw [e2] at this
        exact hB _ a b this
      · rw [if_neg e]
        exact ih i i1 (by simpa using i2) a b
  have hin : ∀ i (h1 : i < ss.length) (h2 : i < l.length), (lo : Int) ≤ l[i] ∧ l[i] ≤ (hi : Int) → (lo : Int) ≤ ss[i].frm ∧ ss[i].to ≤ (hi : Int) := by
    rintro i i1 i2 ⟨a, b⟩
    have hfi := (fit_iff.1 hl.1).2 i i1 i2
    have hsi := hss _ (List.getElem_mem i1)
    constructor
    · apply Classical.byContradiction
      intro hlt
      rcases l3 with l3 | l3
      · omega
      · obtain ⟨l', hm, hc⟩ := l3
        have hlen' := (fit_iff.1 (hm.fit hl).1).1
        have e := hstay l' hm i i2 (by omega) a b
        have := Av.of_move hl hm i1 (by omega) (by omega) (by omega) hc (by omega)
        rw [e] at this
        exact hB _ a b this
    · apply Classical.byContradiction
      intro hlt
      rcases k4 with k4 | k4
      · omega
      · obtain ⟨l', hm, hc⟩ := k4
        have hlen' := (fit_iff.1 (hm.fit hl).1).1
        have e := hstay l' hm i i2 (by omega) a b
        have := Av.of_move hl hm i1 (by omega) (by omega) (by omega) hc (by omega)
        rw [e] at this
        exact hB _ a b this
  have c1 := wants_ge ss l lo hi hlen hin
  have c2 := (count_room l rm lo (hi + 1 - lo) (by omega)).2 fun x a b => by
    have e1 := hl.2 x (by omega)
    have e2 := hB x (by omega) (by omega)
    have e3 : ¬ (l.count (x : Int) : Int) < at_ rm x := fun h => e2 ⟨l, .refl, h⟩
    omega
  rw [show (lo : Int) + ((hi + 1 - lo : Nat) : Int) - 1 = hi by omega] at c2
  have c3 := hno lo hi (by omega) k2
  unfold lacksB roomIn wants at c3
  rw [decide_eq_false_iff_not, List.countP_cons, if_pos (by simp; omega)] at c3
  unfold wants at c1
  simp only at c3
  omega
theorem hall_all {rm : List Int} : ∀ ss : List Str, (∀ t ∈ ss, 0 ≤ t.frm ∧ t.frm ≤ t.to ∧ t.to < rm.length) → (∀ g, 0 ≤ at_ rm g) → (∀ lo hi : Nat, lo ≤ hi → hi < rm.length → lacksB ⟨rm, ss⟩ lo hi = false) → ∃ l, FitR rm ss l
  | [], _, hp, _ => ⟨[], rfl, fun g _ => by simpa using hp g⟩
  | s :: ss, hs, hp, hno => by
    obtain ⟨l, hl⟩ := hall_all ss (fun t ht => hs t (by simp [ht])) hp (fun lo hi a b => by
      have := hno lo hi a b
      unfold lacksB wants at this ⊢
      rw [decide_eq_false_iff_not] at this ⊢
      simp only [List.countP_cons] at this ⊢
      omega)
    have h1 := hs s (by simp)
    obtain ⟨g, g1, g2, l', hm, hc⟩ := hall_step hl h1.1 h1.2.1 h1.2.2 (fun t ht => ⟨(hs t (by simp [ht])).1, (hs t (by simp [ht])).2.2⟩) hno
    obtain ⟨a, b⟩ := hm.fit hl
    refine ⟨g :: l', by simp only [fitB, Bool.and_eq_true, inR_iff]; exact ⟨⟨g1, g2⟩, a⟩, fun x hx => ?_⟩
    rw [List.count_cons]
    have := b x hx
    by_cases e : x = g
    · subst e
      simp
      omega
    · rw [if_neg (by simp; exact fun e' => e e'.symm)]
      omega
theorem hall {r : Ros} (h : ROk r) : someR r = true ↔ ∀ lo hi : Nat, lo ≤ hi → hi < r.room.length → lacksB r lo hi = false := by
  constructor
  · intro hs lo hi a b
    exact no_lack h hs a b
  · intro hno
    obtain ⟨l, hl⟩ := hall_all (rm := r.room) r.strs (fun t ht => ⟨(h.strs t ht).frm0, (h.strs t ht).ft, (h.so t ht).2.1⟩) (fun g => (h.room_le g).1) hno
    exact some_of h ((new_iff h).2 hl)
end Go.Proofs.YtldcehhhndlhdaaGreatDoor.Hr
/- HoursBack: what the loops make. No program here. -/
namespace Go.Proofs.YtldcehhhndlhdaaGreatDoor.Hr
/-- Of a list, as far as a loop has come; of another one behind it. -/
def mixL {α : Type} (a b : List α) (k : Nat) : List α := a.take k ++ b.drop k
theorem mixL_len {α : Type} (a b : List α) (k : Nat) (h : a.length = b.length) (hk : k ≤ a.length) : (mixL a b k).length = b.length := by
  unfold mixL
  rw [List.length_append, List.length_take, List.length_drop]
  omega
theorem mixL_zero {α : Type} (a b : List α) : mixL a b 0 = b := by simp [mixL]
theorem mixL_all {α : Type} (a b : List α) (h : a.length = b.length) : mixL a b b.length = a := by
  unfold mixL
  rw [List.drop_length, List.append_nil, ← h, List.take_length]
theorem mixL_succ {α : Type} (a b : List α) (k : Nat) (h : a.length = b.length) (hk : k < a.length) : (mixL a b k).set k a[k] = mixL a b (k + 1) := set_mid a b k h hk
end Go.Proofs.YtldcehhhndlhdaaGreatDoor.Hr
/- HoursEach: the plain laws. No program here. -/
namespace Go.Proofs.YtldcehhhndlhdaaGreatDoor.Hr
theorem fair_said {r : Ros} (h : ROk r) (hs : someR r = true) : ∃ l, fairR r = (l, 0) ∧ newB r l = true ∧ (bestR stepsI r).1 ≤ costL r.strs l ∧ nearL (farN r) r.strs l := by
  obtain ⟨⟨m, hm, hn⟩, -⟩ := far_real h hs
  have hb : 0 ≤ (bestR (upToI (farN r : Int)) r).2 := by
    apply Classical.byContradiction
    intro hlt
    have := best_no h (w := upToI (farN r : Int)) (by omega) hm
    rw [(mayL_near h.strs).2 hn] at this
    cases this
  obtain ⟨h1, h2, -⟩ := best_real h hb
  refine ⟨rosterP (upToI (farN r : Int)) r.strs (pad r.room), ?_, h1, (least_real h hs).2.2 _ h1, (mayL_near h.strs).1 h2⟩
  unfold fairR
  rw [least_val h, if_pos hs]
  rfl
theorem roster_said {r : Ros} (h : ROk r) (hs : someR r = true) : ∃ l, rosterR r = (l, 0) ∧ newB r l = true ∧ costL r.strs l = (bestR stepsI r).1 := by
  obtain ⟨h1, h2, -⟩ := least_real h hs
  exact ⟨_, by unfold rosterR; rw [least_val h, if_pos hs]; rfl, h1, h2⟩
theorem none_said {r : Ros} (h : ROk r) (hs : someR r = false) : rosterR r = ([], 3) ∧ fairR r = ([], 3) := by
  constructor
  · unfold rosterR
    rw [least_val h, hs]
    rfl
  · unfold fairR
    rw [least_val h, hs]
    rfl
end Go.Proofs.YtldcehhhndlhdaaGreatDoor.Hr
