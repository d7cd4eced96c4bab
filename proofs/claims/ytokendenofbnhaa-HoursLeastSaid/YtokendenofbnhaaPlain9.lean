/- HoursLess, HoursMore: the plain laws. No program here. -/
import Derived.Test.YtokendenofbnhaaPlain8
namespace Go.Proofs.Ytokendenofbnhaa
/-- As much room, or more. -/
def LeR (a b : List Int) : Prop := ∀ h : Int, 0 ≤ at_ a h ∧ at_ a h ≤ at_ b h
theorem at_dec9 {l : List Int} {h : Int} (hne : at_ l h ≠ 0) (j : Int) : at_ (dec l h) j = if j.toNat = h.toNat then at_ l h - 1 else at_ l j := by
  have hl : h.toNat < l.length := by
    apply Classical.byContradiction
    intro hn
    apply hne
    unfold at_
    rw [List.getD_eq_getElem?_getD, List.getElem?_eq_none (by omega)]
    rfl
  unfold dec
  rw [at_set]
  by_cases hj : j.toNat = h.toNat
  · rw [if_pos ⟨hj, hl⟩, if_pos hj]
  · rw [if_neg (fun e => hj e.1), if_neg hj]
theorem at_same9 {l : List Int} {i j : Int} (h : i.toNat = j.toNat) : at_ l i = at_ l j := by unfold at_; rw [h]
theorem LeR.dec {a b : List Int} (h : LeR a b) {i : Int} (hi : at_ a i ≠ 0) : LeR (dec a i) (dec b i) := by
  intro j
  have h1 := h i
  have h2 := h j
  have hb : at_ b i ≠ 0 := by omega
  rw [at_dec9 hi, at_dec9 hb]
  by_cases hj : j.toNat = i.toNat
  · rw [if_pos hj, if_pos hj]; omega
  · rw [if_neg hj, if_neg hj]; omega
theorem LeR.down {a : List Int} (h : LeR a a) {i : Int} (hi : at_ a i ≠ 0) : LeR (Go.Proofs.Ytokendenofbnhaa.dec a i) a := by
  intro j
  have h1 := h i
  have h2 := h j
  rw [at_dec9 hi]
  by_cases hj : j.toNat = i.toNat
  · rw [if_pos hj, at_same9 hj]; omega
  · rw [if_neg hj]; omega
theorem goodL_mono : ∀ (ss : List Str) (a b l : List Int), LeR a b → goodL ss a l = true → goodL ss b l = true
  | [], _, _, [], _, _ => rfl
  | [], _, _, _ :: _, _, h => by simp [goodL] at h
  | _ :: _, _, _, [], _, h => by simp [goodL] at h
  | s :: ss, a, b, h :: hs, hab, hg => by
    simp only [goodL, Bool.and_eq_true, bne_iff_ne] at hg ⊢
    have := hab h
    exact ⟨⟨hg.1.1, by omega⟩, goodL_mono ss _ _ hs (hab.dec hg.1.2) hg.2⟩
theorem goodL_erase : ∀ (ss : List Str) (a l : List Int) (k : Nat), LeR a a → goodL ss a l = true → goodL (ss.eraseIdx k) a (l.eraseIdx k) = true
  | [], _, [], _, _, _ => rfl
  | [], _, _ :: _, _, _, h => by simp [goodL] at h
  | _ :: _, _, [], _, _, h => by simp [goodL] at h
  | s :: ss, a, h :: hs, 0, ha, hg => by
    simp only [goodL, Bool.and_eq_true, bne_iff_ne] at hg
    exact goodL_mono ss _ _ hs (ha.down hg.1.2) hg.2
  | s :: ss, a, h :: hs, k + 1, ha, hg => by
    simp only [goodL, Bool.and_eq_true, bne_iff_ne] at hg
    simp only [List.eraseIdx_cons_succ, goodL, Bool.and_eq_true, bne_iff_ne]
    exact ⟨hg.1, goodL_erase ss _ hs k (ha.dec hg.1.2) hg.2⟩
theorem sumW_erase (w : Str → Int → Int) : ∀ (ss : List Str) (l : List Int) (k : Nat) (h1 : k < ss.length) (h2 : k < l.length), sumW w ss l = w ss[k] l[k] + sumW w (ss.eraseIdx k) (l.eraseIdx k)
  | [], _, _, h1, _ => by simp at h1
  | _ :: _, [], _, _, h2 => by simp at h2
  | s :: ss, h :: hs, 0, _, _ => rfl
  | s :: ss, h :: hs, k + 1, h1, h2 => by
    have ih := sumW_erase w ss hs k (by simpa using h1) (by simpa using h2)
    simp only [List.eraseIdx_cons_succ, sumW, List.getElem_cons_succ]
    omega
theorem nearL_erase {n : Int} {ss : List Str} {l : List Int} (k : Nat) (h : nearL n ss l) : nearL n (ss.eraseIdx k) (l.eraseIdx k) := by
  intro j h1 h2
  rw [List.getElem_eraseIdx, List.getElem_eraseIdx]
  split
  · exact h j _ _
  · exact h (j + 1) _ _
/-- The roster without a street. -/
def lessR (r : Ros) (k : Nat) : Ros := { r with strs := r.strs.eraseIdx k }
theorem ROk.room_le {r : Ros} (h : ROk r) : LeR r.room r.room := fun i => by
  refine ⟨?_, by omega⟩
  unfold at_
  rw [List.getD_eq_getElem?_getD]
  cases hi : r.room[i.toNat]? with
  | none => simp
  | some x => exact (h.rm x (List.mem_of_getElem? hi)).1
theorem lessR_ok {r : Ros} (h : ROk r) (k : Nat) : ROk (lessR r k) :=
  ⟨h.rl, h.rm, by have := h.sl; have := List.length_eraseIdx_le r.strs k; simp only [lessR]; omega, fun s hs => h.so s (List.mem_of_mem_eraseIdx hs)⟩
theorem less_new {r : Ros} (h : ROk r) (k : Nat) {l : List Int} (hl : newB r l = true) : newB (lessR r k) (l.eraseIdx k) = true := goodL_erase _ _ _ _ h.room_le hl
theorem less_said {r : Ros} (h : ROk r) {k : Nat} (hk : k < r.strs.length) (hs : someR r = true) {l : List Int} (hl : newB r l = true) (hc : costL r.strs l = (bestR stepsI r).1) (hkl : k < l.length) :
    someR (lessR r k) = true ∧ (bestR stepsI (lessR r k)).1 + stepsI r.strs[k] l[k] ≤ (bestR stepsI r).1 ∧ (farN (lessR r k) : Int) ≤ (farN r : Int) ∧ (bestR onceI (lessR r k)).1 ≤ (bestR onceI r).1 := by
  have ho := lessR_ok h k
  have hso : someR (lessR r k) = true := some_of ho (less_new h k hl)
  refine ⟨hso, ?_, ?_, ?_⟩
  · have h1 := (least_real ho hso).2.2 _ (less_new h k hl)
    have h2 := sumW_erase stepsI r.strs l k hk hkl
    unfold costL at hc h1
    simp only [lessR] at h1 ⊢
    omega
  · obtain ⟨⟨m, hm, hn⟩, _⟩ := far_real h hs
    have hlen := goodL_length _ _ _ hm
    have := (far_real ho hso).2 _ _ (less_new h k hm) (nearL_erase k hn)
    omega
  · obtain ⟨⟨m, hm, hn⟩, _⟩ := fewest_real h hs
    have hlen := goodL_length _ _ _ hm
    have h1 := (fewest_real ho hso).2 _ (less_new h k hm)
    have h2 := sumW_erase onceI r.strs m k hk (by omega)
    have h3 := once_bd r.strs[k] (m[k]'(by omega))
    unfold movedN at hn h1
    simp only [lessR] at h1 ⊢
    omega
end Go.Proofs.Ytokendenofbnhaa
