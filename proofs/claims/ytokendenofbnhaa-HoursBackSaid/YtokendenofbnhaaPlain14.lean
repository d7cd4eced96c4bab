/- HoursOrder, HoursBack: rosters that have the same new rosters, said otherwise. No program here. -/
import Derived.Test.YtokendenofbnhaaPlain13
namespace Go.Proofs.Ytokendenofbnhaa
/-- A way from the new rosters of one to those of another, that changes no cost and no move. -/
structure Sim (r o : Ros) (f : List Int → List Int) : Prop where
  new : ∀ l, newB r l = true → newB o (f l) = true
  cost : ∀ l, newB r l = true → costL o.strs (f l) = costL r.strs l
  moved : ∀ l, newB r l = true → movedN o.strs (f l) = movedN r.strs l
  near : ∀ l n, newB r l = true → nearL n r.strs l → nearL n o.strs (f l)
theorem Sim.said {r o : Ros} {f : List Int → List Int} (h : Sim r o f) (hr : ROk r) (ho : ROk o) (hs : someR r = true) :
    someR o = true ∧ (bestR stepsI o).1 ≤ (bestR stepsI r).1 ∧ (farN o : Int) ≤ (farN r : Int) ∧ (bestR onceI o).1 ≤ (bestR onceI r).1 := by
  obtain ⟨h1, h2, -⟩ := least_real hr hs
  have hso : someR o = true := some_of ho (h.new _ h1)
  refine ⟨hso, ?_, ?_, ?_⟩
  · have := (least_real ho hso).2.2 _ (h.new _ h1)
    rw [h.cost _ h1] at this
    omega
  · obtain ⟨⟨m, hm1, hn⟩, _⟩ := far_real hr hs
    have := (far_real ho hso).2 _ (farN r) (h.new _ hm1) (h.near _ _ hm1 hn)
    omega
  · obtain ⟨⟨m, hm1, hn⟩, _⟩ := fewest_real hr hs
    have := (fewest_real ho hso).2 _ (h.new _ hm1)
    rw [h.moved _ hm1] at this
    omega
theorem Sim.same {r o : Ros} {f g : List Int → List Int} (h : Sim r o f) (h' : Sim o r g) (hr : ROk r) (ho : ROk o) :
    someR o = someR r ∧ (someR r = true → (bestR stepsI o).1 = (bestR stepsI r).1 ∧ (farN o : Int) = (farN r : Int) ∧ (bestR onceI o).1 = (bestR onceI r).1) := by
  have e : someR o = someR r := by
    cases h1 : someR r
    · cases h2 : someR o
      · rfl
      · have := (h'.said ho hr h2).1
        rw [h1] at this
        cases this
    · exact (h.said hr ho h1).1
  refine ⟨e, fun hs => ?_⟩
  obtain ⟨-, a1, a2, a3⟩ := h.said hr ho hs
  obtain ⟨-, b1, b2, b3⟩ := h'.said ho hr (e.trans hs)
  exact ⟨by omega, by omega, by omega⟩

/-! A street that has one hour alone. -/
theorem WdL.of : ∀ {ss tt : List Str}, tt.length = ss.length → (∀ k (h1 : k < ss.length) (h2 : k < tt.length), Wd ss[k] tt[k]) → WdL ss tt
  | [], [], _, _ => trivial
  | [], _ :: _, h, _ => by simp at h
  | _ :: _, [], h, _ => by simp at h
  | s :: ss, t :: tt, h, hp => ⟨hp 0 (by simp) (by simp), WdL.of (by simpa using h) (fun k h1 h2 => hp (k + 1) (Nat.succ_lt_succ h1) (Nat.succ_lt_succ h2))⟩
theorem fixS_at {r : Ros} {k : Nat} {h : Int} (i : Nat) (h1 : i < (fixS r k h).strs.length) (h2 : i < r.strs.length) : (fixS r k h).strs[i] = if i = k then ⟨r.strs[i].has, h, h, r.strs[i].cost⟩ else r.strs[i] := by
  simp only [fixS, List.getElem_modify]
  by_cases e : k = i
  · subst e; simp
  · rw [if_neg e, if_neg (fun e' => e e'.symm)]
theorem fixS_rok {r : Ros} (hv : ROk r) {k : Nat} (hk : k < r.strs.length) {h : Int} (h0 : r.strs[k].frm ≤ h) (h1 : h ≤ r.strs[k].to) : ROk (fixS r k h) := by
  have hso := hv.so _ (List.getElem_mem hk)
  have hok := fixS_ok hv k (h := h) (by have := hso.1.frm0; omega) (by have := hso.1.to1; omega)
  refine ⟨hv.rl, hv.rm, by rw [fixS_len]; exact hv.sl, fun s hs => ⟨hok s hs, ?_⟩⟩
  obtain ⟨i, hi, rfl⟩ := List.mem_iff_getElem.1 hs
  have hi' : i < r.strs.length := by rwa [fixS_len] at hi
  have hsi := (hv.so _ (List.getElem_mem hi')).2
  rw [fixS_at i hi hi']
  show _ < ((r.room.length : Nat) : Int) ∧ _
  by_cases e : i = k
  · subst e
    rw [if_pos rfl]
    exact ⟨by have := hsi.1; show h < _; omega, hsi.2⟩
  · rw [if_neg e]
    exact hsi
theorem fixS_new {r : Ros} (hv : ROk r) {k : Nat} (hk : k < r.strs.length) {h : Int} (h0 : r.strs[k].frm ≤ h) (h1 : h ≤ r.strs[k].to) {l : List Int} :
    newB (fixS r k h) l = true ↔ newB r l = true ∧ l[k]? = some h := by
  rw [new_iff hv, new_iff (fixS_rok hv hk h0 h1), fit_iff, fit_iff]
  have hfl := fixS_len r k h
  constructor
  · rintro ⟨⟨a, b⟩, c⟩
    have hat : l[k]'(by omega) = h := by
      have := b k (by rw [fixS_len]; exact hk) (by omega)
      rw [fixS_at k (by rw [fixS_len]; exact hk) hk, if_pos rfl] at this
      simp only at this
      omega
    refine ⟨⟨⟨by omega, fun i i1 i2 => ?_⟩, c⟩, by rw [List.getElem?_eq_getElem (by omega), hat]⟩
    have := b i (by rw [fixS_len]; exact i1) i2
    rw [fixS_at i (by rw [fixS_len]; exact i1) i1] at this
    by_cases e : i = k
    · subst e; rw [hat]; exact ⟨h0, h1⟩
    · rwa [if_neg e] at this
  · rintro ⟨⟨⟨a, b⟩, c⟩, d⟩
    refine ⟨⟨by omega, fun i i1 i2 => ?_⟩, c⟩
    have i1' : i < r.strs.length := by rwa [fixS_len] at i1
    rw [fixS_at i i1 i1']
    by_cases e : i = k
    · subst e
      rw [List.getElem?_eq_getElem i2] at d
      have d : l[i] = h := by simpa using d
      rw [if_pos rfl]
      simp only
      omega
    · rw [if_neg e]
      exact b i i1' i2
theorem fixS_wd {r : Ros} {k : Nat} (hk : k < r.strs.length) {h : Int} (h0 : r.strs[k].frm ≤ h) (h1 : h ≤ r.strs[k].to) : WdL (fixS r k h).strs r.strs := by
  refine WdL.of (by rw [fixS_len]) fun i i1 i2 => ?_
  rw [fixS_at i i1 i2]
  by_cases e : i = k
  · subst e
    rw [if_pos rfl]
    exact ⟨rfl, rfl, h0, h1⟩
  · rw [if_neg e]
    exact Wd.refl _
theorem bHit_iff {r : Ros} (hv : ROk r) (hs : someR r = true) {k : Nat} (hk : k < r.strs.length) {h : Int} (h0 : r.strs[k].frm ≤ h) (h1 : h ≤ r.strs[k].to) :
    bHit r k (bestR stepsI r).1 h = true ↔ ∃ l, newB r l = true ∧ costL r.strs l = (bestR stepsI r).1 ∧ l[k]? = some h := by
  have ho := fixS_rok hv hk h0 h1
  have hc : ∀ l, costL r.strs l = costL (fixS r k h).strs l := fun l => sumW_wd (fun s t x hw => hw.steps x) _ _ l (fixS_wd hk h0 h1)
  have hmin := (least_real hv hs).2.2
  unfold bHit
  rw [Bool.and_eq_true, beq_iff_eq]
  constructor
  · rintro ⟨a, b⟩
    obtain ⟨j1, j2, -⟩ := least_real ho a
    obtain ⟨j3, j4⟩ := (fixS_new hv hk h0 h1).1 j1
    exact ⟨_, j3, by rw [hc, j2, b], j4⟩
  · rintro ⟨l, a, b, c⟩
    have hn := (fixS_new hv hk h0 h1).2 ⟨a, c⟩
    have hso := some_of ho hn
    obtain ⟨j1, j2, j3⟩ := least_real ho hso
    have k1 := j3 l hn
    rw [← hc, b] at k1
    have k2 := hmin _ ((fixS_new hv hk h0 h1).1 j1).1
    rw [hc, j2] at k2
    exact ⟨hso, by omega⟩
/-- Whether a street keeps its hour: by the new rosters of the least cost. -/
def Keeps (r : Ros) (k : Nat) (P : Int → Prop) : Prop := ∃ l x, newB r l = true ∧ costL r.strs l = (bestR stepsI r).1 ∧ l[k]? = some x ∧ P x
theorem hits {r : Ros} (hv : ROk r) (hs : someR r = true) {k : Nat} (hk : k < r.strs.length) (p : Int → Bool) :
    (((List.range (wide r.strs[k])).any fun j => bHit r k (bestR stepsI r).1 (r.strs[k].frm + (j : Int)) && p (r.strs[k].frm + (j : Int))) = true) ↔ Keeps r k (fun x => p x = true) := by
  rw [List.any_eq_true]
  have hft := (hv.so _ (List.getElem_mem hk)).1.ft
  constructor
  · rintro ⟨j, hj, h⟩
    rw [Bool.and_eq_true] at h
    have hj' := List.mem_range.1 hj
    unfold wide at hj'
    obtain ⟨l, a, b, c⟩ := (bHit_iff hv hs hk (by omega) (by omega)).1 h.1
    exact ⟨l, _, a, b, c, h.2⟩
  · rintro ⟨l, x, a, b, c, d⟩
    have hf := (fit_iff.1 ((new_iff hv).1 a).1)
    have hkl : k < l.length := by have := hf.1; omega
    have hx := hf.2 k hk hkl
    rw [List.getElem?_eq_getElem hkl] at c
    have c : l[k] = x := by simpa using c
    rw [c] at hx
    refine ⟨(x - r.strs[k].frm).toNat, List.mem_range.2 (by unfold wide; omega), ?_⟩
    have e : r.strs[k].frm + ((x - r.strs[k].frm).toNat : Int) = x := by omega
    rw [e, d, Bool.and_true]
    exact (bHit_iff hv hs hk hx.1 hx.2).2 ⟨l, a, b, by rw [List.getElem?_eq_getElem hkl, c]⟩
theorem bound_val {r : Ros} (hv : ROk r) {k : Nat} (hk : k < r.strs.length) :
    (someR r = false → boundR r (k : Int) = (0, 3)) ∧ (someR r = true → boundR r (k : Int) = if r.strs[k].has = -1 then (2, 0) else if goesTo r k (bestR stepsI r).1 r.strs[k] (wide r.strs[k]) = false then (1, 0) else if staysTo r k (bestR stepsI r).1 r.strs[k] (wide r.strs[k]) = false then (2, 0) else (3, 0)) := by
  have hst : isStreet r (k : Int) = true := by unfold isStreet; rw [inR_iff]; omega
  have ha : askE r (isStreet r (k : Int)) = 0 := askE_zero.2 ⟨valid_iff.2 hv, hst⟩
  constructor
  · intro hs
    have hb : (bestR stepsI r).2 < 0 := by
      unfold someR at hs
      simpa using hs
    have e : knownR stepsI r (isStreet r (k : Int)) = (0, 3) := by unfold knownR; rw [if_pos ha, if_pos hb]
    unfold boundR
    rw [e]
    rfl
  · intro hs
    have hb : ¬ (bestR stepsI r).2 < 0 := by
      unfold someR at hs
      simpa using hs
    have e : knownR stepsI r (isStreet r (k : Int)) = ((bestR stepsI r).1, 0) := by unfold knownR; rw [if_pos ha, if_neg hb]
    unfold boundR
    rw [e]
    simp only [if_true, Int.toNat_natCast, List.getD_eq_getElem?_getD, List.getElem?_eq_getElem hk, Option.getD_some]
theorem bound_same {r o : Ros} {f g : List Int → List Int} (h : Sim r o f) (h' : Sim o r g) (hr : ROk r) (ho : ROk o) {i j : Nat} (hi : i < r.strs.length) (hj : j < o.strs.length)
    (hn : r.strs[i].has = -1 ↔ o.strs[j].has = -1)
    (hf : r.strs[i].has ≠ -1 → ∀ l, newB r l = true → ∀ x, l[i]? = some x → ∃ y, (f l)[j]? = some y ∧ (x = r.strs[i].has ↔ y = o.strs[j].has))
    (hg : r.strs[i].has ≠ -1 → ∀ l, newB o l = true → ∀ x, l[j]? = some x → ∃ y, (g l)[i]? = some y ∧ (x = o.strs[j].has ↔ y = r.strs[i].has)) :
    boundR r (i : Int) = boundR o (j : Int) := by
  obtain ⟨e, hsame⟩ := h.same h' hr ho
  obtain ⟨a1, a2⟩ := bound_val hr hi
  obtain ⟨b1, b2⟩ := bound_val ho hj
  cases hs : someR r
  · rw [a1 hs, b1 (e.trans hs)]
  · have hs2 := e.trans hs
    obtain ⟨el, -, -⟩ := hsame hs
    rw [a2 hs, b2 hs2]
    by_cases hh : r.strs[i].has = -1
    · rw [if_pos hh, if_pos (hn.1 hh)]
    · rw [if_neg hh, if_neg (fun e => hh (hn.2 e))]
      have key : ∀ (p q : Int → Bool), (∀ x y, (x = r.strs[i].has ↔ y = o.strs[j].has) → p x = q y) → (Keeps r i (fun x => p x = true) ↔ Keeps o j (fun x => q x = true)) := by
        intro p q hpq
        constructor
        · rintro ⟨l, x, k1, k2, k3, k4⟩
          obtain ⟨y, k5, k6⟩ := hf hh l k1 x k3
          exact ⟨f l, y, h.new _ k1, by rw [h.cost _ k1, k2, el], k5, (hpq x y k6).symm.trans k4⟩
        · rintro ⟨l, x, k1, k2, k3, k4⟩
          obtain ⟨y, k5, k6⟩ := hg hh l k1 x k3
          exact ⟨g l, y, h'.new _ k1, by rw [h'.cost _ k1, k2, el], k5, (hpq y x ⟨k6.2, k6.1⟩).trans k4⟩
      have g1 : goesTo r i (bestR stepsI r).1 r.strs[i] (wide r.strs[i]) = goesTo o j (bestR stepsI o).1 o.strs[j] (wide o.strs[j]) := by
        rw [Bool.eq_iff_iff]
        unfold goesTo
        rw [hits hr hs hi (fun x => x != r.strs[i].has), hits ho hs2 hj (fun x => x != o.strs[j].has)]
        exact key _ _ fun x y hxy => by
          rw [Bool.eq_iff_iff, bne_iff_ne, bne_iff_ne]
          exact not_congr hxy
      have g2 : staysTo r i (bestR stepsI r).1 r.strs[i] (wide r.strs[i]) = staysTo o j (bestR stepsI o).1 o.strs[j] (wide o.strs[j]) := by
        rw [Bool.eq_iff_iff]
        unfold staysTo
        rw [hits hr hs hi (fun x => x == r.strs[i].has), hits ho hs2 hj (fun x => x == o.strs[j].has)]
        exact key _ _ fun x y hxy => by
          rw [Bool.eq_iff_iff, beq_iff_eq, beq_iff_eq]
          exact hxy
      rw [g1, g2]

/-! The streets from another one on. -/
def rotL {α : Type} (k : Nat) (xs : List α) : List α := xs.drop k ++ xs.take k
theorem rotL_len {α : Type} (k : Nat) (xs : List α) : (rotL k xs).length = xs.length := by
  unfold rotL
  rw [List.length_append, List.length_drop, List.length_take]
  omega
theorem rotL_back {α : Type} (k : Nat) (xs : List α) : rotL (xs.length - k) (rotL k xs) = xs := by
  unfold rotL
  rw [List.drop_append_of_le_length (by simp), List.take_append_of_le_length (by simp)]
  have e : xs.length - k = (xs.drop k).length := by simp
  rw [e, List.drop_length, List.take_length, List.nil_append, List.take_append_drop]
theorem rotL_at {α : Type} (k i : Nat) (xs : List α) (h : k < xs.length) (hi : i < xs.length) : (rotL k xs)[i]? = xs[(i + k) % xs.length]? := by
  unfold rotL
  by_cases e : i < xs.length - k
  · rw [List.getElem?_append_left (by simpa using e), List.getElem?_drop, Nat.mod_eq_of_lt (by omega), Nat.add_comm]
  · rw [List.getElem?_append_right (by simpa using Nat.le_of_not_lt e), List.length_drop, List.getElem?_take, if_pos (by omega)]
    have : (i + k) % xs.length = i - (xs.length - k) := by
      rw [show i + k = i - (xs.length - k) + xs.length by omega, Nat.add_mod_right, Nat.mod_eq_of_lt (by omega)]
    rw [this]
theorem fitB_app : ∀ (a b : List Str) (c d : List Int), c.length = a.length → fitB (a ++ b) (c ++ d) = (fitB a c && fitB b d)
  | [], _, [], _, _ => by simp [fitB]
  | [], _, _ :: _, _, h => by simp at h
  | _ :: _, _, [], _, h => by simp at h
  | s :: a, b, x :: c, d, h => by
    simp only [List.cons_append, fitB]
    rw [fitB_app a b c d (by simpa using h), Bool.and_assoc]
theorem sumW_app (w : Str → Int → Int) : ∀ (a b : List Str) (c d : List Int), c.length = a.length → sumW w (a ++ b) (c ++ d) = sumW w a c + sumW w b d
  | [], _, [], _, _ => by simp [sumW]
  | [], _, _ :: _, _, h => by simp at h
  | _ :: _, _, [], _, h => by simp at h
  | s :: a, b, x :: c, d, h => by
    simp only [List.cons_append, sumW]
    rw [sumW_app w a b c d (by simpa using h)]
    omega
def rotR (r : Ros) (k : Nat) : Ros := { r with strs := rotL k r.strs }
theorem rotR_ok {r : Ros} (h : ROk r) (k : Nat) : ROk (rotR r k) := by
  refine ⟨h.rl, h.rm, by simp only [rotR]; rw [rotL_len]; exact h.sl, fun s hs => h.so s ?_⟩
  simp only [rotR, rotL, List.mem_append] at hs
  rcases hs with hs | hs
  · exact List.mem_of_mem_drop hs
  · exact List.mem_of_mem_take hs
theorem sumW_rot (w : Str → Int → Int) (k : Nat) (ss : List Str) (l : List Int) (hl : l.length = ss.length) : sumW w (rotL k ss) (rotL k l) = sumW w ss l := by
  unfold rotL
  rw [sumW_app _ _ _ _ _ (by simp [hl])]
  have e := sumW_app w (ss.take k) (ss.drop k) (l.take k) (l.drop k) (by simp [hl])
  rw [List.take_append_drop, List.take_append_drop] at e
  omega
theorem sim_rot {r : Ros} (h : ROk r) {k : Nat} (hk : k ≤ r.strs.length) : Sim r (rotR r k) (rotL k) := by
  refine ⟨fun l hl => ?_, fun l hl => ?_, fun l hl => ?_, fun l n hl hn => ?_⟩
  · obtain ⟨a, b⟩ := (new_iff h).1 hl
    have hlen := (fit_iff.1 a).1
    refine (new_iff (rotR_ok h k)).2 ⟨?_, fun g hg => ?_⟩
    · show fitB (rotL k r.strs) (rotL k l) = true
      unfold rotL
      rw [fitB_app _ _ _ _ (by simp [hlen])]
      have e := fitB_app (r.strs.take k) (r.strs.drop k) (l.take k) (l.drop k) (by simp [hlen])
      rw [List.take_append_drop, List.take_append_drop, a] at e
      rw [Bool.and_comm]
      exact e.symm
    · have := b g hg
      have e : (rotL k l).count g = l.count g := by
        unfold rotL
        rw [List.count_append, Nat.add_comm, ← List.count_append, List.take_append_drop]
      rw [e]
      exact this
  · exact sumW_rot _ _ _ _ (goodL_length _ _ _ hl)
  · exact sumW_rot _ _ _ _ (goodL_length _ _ _ hl)
  · have hlen := goodL_length _ _ _ hl
    intro i h1 h2
    have h1' : i < r.strs.length := by simp only [rotR] at h1; rwa [rotL_len] at h1
    by_cases hk2 : k < r.strs.length
    · have e1 := rotL_at k i r.strs hk2 h1'
      have e2 := rotL_at k i l (by omega) (by omega)
      have hm : (i + k) % r.strs.length < r.strs.length := Nat.mod_lt _ (by omega)
      rw [hlen] at e2
      rw [List.getElem?_eq_getElem (by rw [rotL_len]; exact h1'), List.getElem?_eq_getElem hm] at e1
      rw [List.getElem?_eq_getElem (by rw [rotL_len]; omega), List.getElem?_eq_getElem (by omega)] at e2
      injection e1 with e1
      injection e2 with e2
      simp only [rotR]
      rw [e1, e2]
      exact hn _ _ _
    · have e : rotL k r.strs = r.strs := by unfold rotL; rw [List.drop_of_length_le (by omega), List.take_of_length_le (by omega)]; rfl
      have e' : rotL k l = l := by unfold rotL; rw [List.drop_of_length_le (by omega), List.take_of_length_le (by omega)]; rfl
      simp only [rotR, e, e']
      exact hn _ _ _
theorem rotR_back {r : Ros} {k : Nat} : rotR (rotR r k) (r.strs.length - k) = r := by
  unfold rotR
  simp only
  rw [rotL_back k r.strs]
theorem sim_rot_back {r : Ros} (h : ROk r) {k : Nat} : Sim (rotR r k) r (rotL (r.strs.length - k)) := by
  have := sim_rot (rotR_ok h k) (k := r.strs.length - k) (by simp only [rotR]; rw [rotL_len]; omega)
  rwa [rotR_back] at this
end Go.Proofs.Ytokendenofbnhaa
