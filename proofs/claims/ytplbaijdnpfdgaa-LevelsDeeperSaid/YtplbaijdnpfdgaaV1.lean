/- What is known of one town by another. -/
import Derived.Test.YtplbaijdnpfdgaaW26
import Derived.Test.YtplbaijdnpfdgaaW27
namespace Go.Proofs.Ytplbaijdnpfdgaa
open Go.RowKit Go.Sort

/-- What is known of Differ, if there is a truth. -/
theorem differ_zero {t : Twn} (h : openE t true = 0) {a b : Int} (ha : isWell t.wells a = true) (hb : isWell t.wells b = true) : differP t a b = (⟨-at_ (closeM (baseM t)) b.toNat a.toNat, at_ (closeM (baseM t)) a.toNat b.toNat⟩, 0) := by
  unfold differP
  rw [ha, hb, Bool.and_true, h, if_pos rfl]
theorem differ_three {t : Twn} (h : openE t true = 3) {a b : Int} (ha : isWell t.wells a = true) (hb : isWell t.wells b = true) : differP t a b = (⟨0, 0⟩, 3) := by
  unfold differP
  rw [ha, hb, Bool.and_true, h, if_neg (by decide)]
theorem openE_cases {t : Twn} (h : valid t = true) : openE t true = 0 ∨ openE t true = 3 := by
  unfold openE
  rw [if_pos h, if_pos rfl]
  split <;> simp
theorem open_of_truth {t : Twn} (hv : valid t = true) {x : Nat → Int} (hx : Tr t x) : openE t true = 0 := by
  have h := (says_ok (valid_vl hv) (baseM_says (valid_vl hv))).1.2 ⟨x, hx⟩
  unfold openE
  rw [if_pos hv, if_pos rfl, if_pos h]
theorem level_zero {t : Twn} (h : openE t true = 0) {a : Int} (ha : isWell t.wells a = true) : levelP t a = (⟨(lvl (closeM (baseM t)) a.toNat).low, (lvl (closeM (baseM t)) a.toNat).high⟩, 0) := by
  unfold levelP
  rw [ha, h, if_pos rfl]
  simp only [lvl]
theorem higher_zero {t : Twn} {a b : Int} {lo hi : Int} (hd : differP t b a = (⟨lo, hi⟩, 0)) : higherP t a b = (if 0 < lo then 1 else if hi ≤ 0 then 2 else 3, 0) := by
  unfold higherP
  rw [hd]
  simp only [ne_eq, not_true_eq_false, if_false]
  split
  · rfl
  · split <;> rfl
theorem each_level {t : Twn} (h : openE t true = 0) {x : Nat → Int} (hx : Tr t x) {w : Nat} (hw : (w : Int) < t.wells) : (lvl (closeM (baseM t)) w).low ≤ x w ∧ x w ≤ (lvl (closeM (baseM t)) w).high := by
  obtain ⟨hv, -, l, he, hl⟩ := open_exact h
  rw [hl w hw]
  exact he.all x hx w (by rw [he.len]; omega)
theorem each_differ {t : Twn} (h : openE t true = 0) {x : Nat → Int} (hx : Tr t x) {a b : Int} (ha : isWell t.wells a = true) (hb : isWell t.wells b = true) : ∃ lo hi, differP t a b = (⟨lo, hi⟩, 0) ∧ lo ≤ x b.toNat - x a.toNat ∧ x b.toNat - x a.toNat ≤ hi := by
  refine ⟨_, _, differ_zero h ha hb, ?_⟩
  have ht := open_tight h
  have h1 := ht.all x hx _ _ (act_well ha) (act_well hb)
  have h2 := ht.all x hx _ _ (act_well hb) (act_well ha)
  have hv := (openE_zero h).1
  have h6 := hv.w6
  have a1 := isWell_iff.1 ha
  have b1 := isWell_iff.1 hb
  have ea : lift x a.toNat = x a.toNat := by simp [lift, show a.toNat ≠ 6 by omega]
  have eb : lift x b.toNat = x b.toNat := by simp [lift, show b.toNat ≠ 6 by omega]
  rw [ea, eb] at h1 h2
  omega

/-- A town that has no other truths than another one. -/
structure NarT (t o : Twn) : Prop where
  wells : o.wells = t.wells
  tr : ∀ x, Tr o x → Tr t x
theorem nar_addS (t : Twn) (s : Snd) : NarT t (addS t s) := ⟨rfl, fun _ h => (tr_addS.1 h).1⟩
theorem nar_addP (t : Twn) (s : Slp) : NarT t (addP t s) := ⟨rfl, fun _ h => (tr_addP.1 h).1⟩
theorem has_truth {t : Twn} (h : openE t true = 0) : ∃ x, Tr t x := by
  obtain ⟨-, ht, -⟩ := open_exact h
  obtain ⟨x, hx, -⟩ := ht.one 6 6 (.inr rfl) (.inr rfl)
  exact ⟨x, hx⟩
theorem no_truth {t : Twn} (hv : valid t = true) (h : openE t true = 3) : ¬ ∃ x, Tr t x := fun ⟨x, hx⟩ => by have := open_of_truth hv hx; omega
theorem openE_three_of {t : Twn} (hv : valid t = true) (h : ¬ ∃ x, Tr t x) : openE t true = 3 := by
  rcases openE_cases hv with h0 | h0
  · exact absurd (has_truth h0) h
  · exact h0
theorem NarT.one {t o : Twn} (h : NarT t o) (hv : valid t = true) (ho : openE o true = 0) : openE t true = 0 := by
  obtain ⟨x, hx⟩ := has_truth ho
  exact open_of_truth hv (h.tr x hx)
theorem NarT.none {t o : Twn} (h : NarT t o) (hv : valid t = true) (hvo : valid o = true) (ht : openE t true = 3) : openE o true = 3 := by
  rcases openE_cases hvo with h0 | h0
  · have := h.one hv h0; omega
  · exact h0
/-- Both ends of a level are levels of truths. -/
theorem lvl_one {t : Twn} (h : openE t true = 0) {w : Nat} (hw : (w : Int) < t.wells) : (∃ x, Tr t x ∧ x w = (lvl (closeM (baseM t)) w).low) ∧ (∃ x, Tr t x ∧ x w = (lvl (closeM (baseM t)) w).high) := by
  obtain ⟨hv, -, l, he, hl⟩ := open_exact h
  rw [hl w hw]
  exact ⟨⟨_, he.low, rfl⟩, ⟨_, he.high, rfl⟩⟩
theorem NarT.lvl {t o : Twn} (h : NarT t o) (ho : openE o true = 0) (ht : openE t true = 0) {w : Nat} (hw : (w : Int) < t.wells) : (lvl (closeM (baseM t)) w).low ≤ (lvl (closeM (baseM o)) w).low ∧ (lvl (closeM (baseM o)) w).high ≤ (lvl (closeM (baseM t)) w).high := by
  obtain ⟨⟨x, hx, ex⟩, ⟨y, hy, ey⟩⟩ := lvl_one ho (w := w) (by rw [h.wells]; exact hw)
  have h1 := each_level ht (h.tr x hx) hw
  have h2 := each_level ht (h.tr y hy) hw
  omega
/-- Both ends of Differ are differences in truths. -/
theorem differ_one {t : Twn} (h : openE t true = 0) {a b : Int} (ha : isWell t.wells a = true) (hb : isWell t.wells b = true) : ∃ lo hi, differP t a b = (⟨lo, hi⟩, 0) ∧ (∃ x, Tr t x ∧ x b.toNat - x a.toNat = lo) ∧ (∃ x, Tr t x ∧ x b.toNat - x a.toNat = hi) ∧ (∀ x, Tr t x → lo ≤ x b.toNat - x a.toNat ∧ x b.toNat - x a.toNat ≤ hi) := by
  have ht := open_tight h
  obtain ⟨x, hx, ex⟩ := ht.one _ _ (act_well hb) (act_well ha)
  obtain ⟨y, hy, ey⟩ := ht.one _ _ (act_well ha) (act_well hb)
  have hv := (openE_zero h).1
  have h6 := hv.w6
  have a1 := isWell_iff.1 ha
  have b1 := isWell_iff.1 hb
  have ea : ∀ x : Nat → Int, lift x a.toNat = x a.toNat := fun x => by simp [lift, show a.toNat ≠ 6 by omega]
  have eb : ∀ x : Nat → Int, lift x b.toNat = x b.toNat := fun x => by simp [lift, show b.toNat ≠ 6 by omega]
  rw [ea, eb] at ex ey
  refine ⟨_, _, differ_zero h ha hb, ⟨x, hx, by omega⟩, ⟨y, hy, by omega⟩, fun z hz => ?_⟩
  have h1 := ht.all z hz _ _ (act_well ha) (act_well hb)
  have h2 := ht.all z hz _ _ (act_well hb) (act_well ha)
  rw [ea, eb] at h1 h2
  omega
/-- What Differ and Higher say of two wells in both towns. -/
structure Both (dl dh el eh k n : Int) : Prop where
  ins : dl ≤ el ∧ el ≤ eh ∧ eh ≤ dh
  hig : k = 3 ∨ n = k
theorem NarT.both {t o : Twn} (h : NarT t o) (ho : openE o true = 0) (ht : openE t true = 0) {a b : Int} (ha : isWell t.wells a = true) (hb : isWell t.wells b = true) :
    ∃ dl dh el eh k n, differP t a b = (⟨dl, dh⟩, 0) ∧ differP o a b = (⟨el, eh⟩, 0) ∧ higherP t a b = (k, 0) ∧ higherP o a b = (n, 0) ∧ Both dl dh el eh k n := by
  have ha' : isWell o.wells a = true := by rw [h.wells]; exact ha
  have hb' : isWell o.wells b = true := by rw [h.wells]; exact hb
  obtain ⟨dl, dh, h1, -, -, hd⟩ := differ_one ht ha hb
  obtain ⟨el, eh, h2, ⟨x, hx, ex⟩, ⟨y, hy, ey⟩, he⟩ := differ_one ho ha' hb'
  obtain ⟨fl, fh, h3, -, -, hf⟩ := differ_one ht hb ha
  obtain ⟨gl, gh, h4, ⟨u, hu, eu⟩, ⟨v, hv, ev⟩, hg⟩ := differ_one ho hb' ha'
  refine ⟨dl, dh, el, eh, _, _, h1, h2, higher_zero h3, higher_zero h4, ?_, ?_⟩
  · have := hd x (h.tr x hx)
    have := hd y (h.tr y hy)
    have := he x hx
    omega
  · have := hf u (h.tr u hu)
    have := hf v (h.tr v hv)
    have := hg u hu
    split
    · rw [if_pos (by omega)]; exact .inr rfl
    · split
      · rw [if_neg (by omega), if_pos (by omega)]; exact .inr rfl
      · exact .inl rfl
end Go.Proofs.Ytplbaijdnpfdgaa
