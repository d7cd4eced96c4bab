/- Plain laws of the cheapest rosters, as the program reckons them. No program here. -/
import Derived.Test.YtokendenofbnhaaPlain
namespace Go.Proofs.Ytokendenofbnhaa
/-- Eight numbers of room, each small and not below zero. -/
structure LOk (left : List Int) : Prop where
  len : left.length = 8
  lo : ∀ x ∈ left, 0 ≤ x ∧ x ≤ 7
/-- A street of a valid roster. -/
structure StrOk (s : Str) : Prop where
  has0 : -1 ≤ s.has
  has1 : s.has ≤ 7
  frm0 : 0 ≤ s.frm
  ft : s.frm ≤ s.to
  to1 : s.to ≤ 7
  cost0 : 0 ≤ s.cost
  cost1 : s.cost ≤ 9
theorem LOk.bd {left : List Int} (h : LOk left) (i : Int) : 0 ≤ at_ left i ∧ at_ left i ≤ 7 := by
  unfold at_
  rw [List.getD_eq_getElem?_getD]
  cases hx : left[i.toNat]? with
  | none => simp
  | some x => exact h.lo x (List.mem_of_getElem? hx)
theorem LOk.dec {left : List Int} (h : LOk left) {i : Int} (hi : at_ left i ≠ 0) : LOk (dec left i) := by
  refine ⟨by rw [dec_length]; exact h.len, fun x hx => ?_⟩
  rcases List.mem_or_eq_of_mem_set hx with hx | rfl
  · exact h.lo x hx
  · have := h.bd i; omega
/-- The best of the first j hours of a street. -/
def bestTo (w : Str → Int → Int) (ss : List Str) (s : Str) (left : List Int) (j : Nat) : Int × Int := ((List.range j).map fun k : Nat => s.frm + (k : Int)).foldl (tryH w (bestP w ss) s left) (0, -1)
theorem bestTo_zero (w : Str → Int → Int) (ss : List Str) (s : Str) (left : List Int) : bestTo w ss s left 0 = (0, -1) := rfl
theorem bestTo_succ (w : Str → Int → Int) (ss : List Str) (s : Str) (left : List Int) (j : Nat) : bestTo w ss s left (j + 1) = tryH w (bestP w ss) s left (bestTo w ss s left j) (s.frm + (j : Int)) := by
  unfold bestTo
  rw [List.range_succ, List.map_append, List.foldl_append]
  rfl
theorem bestTo_all (w : Str → Int → Int) (ss : List Str) (s : Str) (left : List Int) : bestTo w ss s left (s.to - s.frm + 1).toNat = bestP w (s :: ss) left := rfl
/-- What a street costs is at most 1800. -/
def LowW (w : Str → Int → Int) (ss : List Str) : Prop := ∀ s ∈ ss, ∀ h, s.frm ≤ h → h ≤ s.to → w s h ≤ 1800
theorem tryH_bd {w : Str → Int → Int} {best : List Int → Int × Int} {s : Str} {left : List Int} {out : Int × Int} {h M : Int} (hw : w s h ≤ 1800) (hb : ∀ l, 0 ≤ (best l).1 ∧ (best l).1 ≤ M) (ho : 0 ≤ out.1 ∧ out.1 ≤ M + 1800) : 0 ≤ (tryH w best s left out h).1 ∧ (tryH w best s left out h).1 ≤ M + 1800 := by
  unfold tryH
  split
  · exact ho
  · rename_i hc
    split
    · exact ho
    · split
      · have := hb (dec left h)
        have : ¬ w s h < 0 := fun h => hc (.inl h)
        simp only; omega
      · exact ho
theorem bestTo_bd {w : Str → Int → Int} {ss : List Str} {s : Str} (hw : ∀ h, s.frm ≤ h → h ≤ s.to → w s h ≤ 1800) {M : Int} (hM : 0 ≤ M) (hb : ∀ l, 0 ≤ (bestP w ss l).1 ∧ (bestP w ss l).1 ≤ M) (left : List Int) : ∀ j : Nat, j ≤ (s.to - s.frm + 1).toNat → 0 ≤ (bestTo w ss s left j).1 ∧ (bestTo w ss s left j).1 ≤ M + 1800
  | 0, _ => by rw [bestTo_zero]; simp only; omega
  | j + 1, hj => by
    rw [bestTo_succ]
    exact tryH_bd (hw _ (by omega) (by omega)) hb (bestTo_bd hw hM hb left j (by omega))
theorem bestP_bd {w : Str → Int → Int} : ∀ {ss : List Str}, LowW w ss → ∀ left, 0 ≤ (bestP w ss left).1 ∧ (bestP w ss left).1 ≤ 1800 * ss.length
  | [], _, left => by simp [bestP]
  | s :: ss, h, left => by
    have ih := bestP_bd (ss := ss) (fun s' hs' => h s' (by simp [hs']))
    have := bestTo_bd (h s (by simp)) (by omega) ih left _ (Nat.le_refl _)
    rw [bestTo_all] at this
    simp only [List.length_cons]
    omega
theorem tryH_hour {w : Str → Int → Int} {best : List Int → Int × Int} {s : Str} {left : List Int} {out : Int × Int} {h : Int} (hh : h ≤ 7) (ho : -1 ≤ out.2 ∧ out.2 ≤ 7) (h0 : 0 ≤ h) : -1 ≤ (tryH w best s left out h).2 ∧ (tryH w best s left out h).2 ≤ 7 := by
  unfold tryH
  split
  · exact ho
  · split
    · exact ho
    · split
      · simp only; omega
      · exact ho
theorem bestTo_hour {w : Str → Int → Int} {ss : List Str} {s : Str} (hs : StrOk s) (left : List Int) : ∀ j : Nat, j ≤ (s.to - s.frm + 1).toNat → -1 ≤ (bestTo w ss s left j).2 ∧ (bestTo w ss s left j).2 ≤ 7
  | 0, _ => by rw [bestTo_zero]; simp only; omega
  | j + 1, hj => by
    rw [bestTo_succ]
    have := hs.frm0; have := hs.to1; have := hs.ft
    exact tryH_hour (by omega) (bestTo_hour hs left j (by omega)) (by omega)
end Go.Proofs.Ytokendenofbnhaa
