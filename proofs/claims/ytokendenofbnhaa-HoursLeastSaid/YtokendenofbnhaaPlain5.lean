/- Room given; whether a street keeps its hour: plain words. No program here. -/
import Derived.Test.YtokendenofbnhaaPlain4
namespace Go.Proofs.Ytokendenofbnhaa
def roomier (r : Ros) (h : Nat) (n : Int) : Ros := { r with room := r.room.set h (r.room.getD h 0 + n) }
def giveR (r : Ros) (h : Int) : Int × Int :=
  if askE r (isHour r h) = 0 then (if r.room.getD h.toNat 0 = 6 then (0, 2) else if (leastR r).2 = 0 then ((leastR r).1 - (leastR (roomier r h.toNat 1)).1, 0) else (0, (leastR r).2)) else (0, askE r (isHour r h))
theorem isHour_spec {r : Ros} {n : Int} (h : isHour r n = true) : 0 ≤ n ∧ n < r.room.length := by
  simp [isHour, inR] at h; omega
theorem isStreet_spec {r : Ros} {n : Int} (h : isStreet r n = true) : 0 ≤ n ∧ n < r.strs.length := by
  simp [isStreet, inR] at h; omega
theorem lowSteps {ss : List Str} (hok : ∀ s ∈ ss, StrOk s) : LowW stepsI ss := fun s hs h h0 h1 => by
  have ho := hok s hs
  have hm := moveI_le7 ho h0 h1
  have hm0 := moveI_nonneg s h
  have := Int.mul_le_mul hm ho.cost1 ho.cost0 (by omega : (0 : Int) ≤ 8)
  unfold stepsI; omega
theorem leastR_bd (r : Ros) : 0 ≤ (leastR r).1 ∧ (leastR r).1 ≤ 10800 := by
  unfold leastR knownR
  by_cases h : askE r true = 0
  · rw [if_pos h]
    have hv := valid_iff.1 (askE_zero.1 h).1
    by_cases h2 : (bestR stepsI r).2 < 0
    · rw [if_pos h2]; simp
    · rw [if_neg h2]
      have := bestP_bd (lowSteps (fun s hs => (hv.so s hs).1)) (pad r.room)
      have := hv.sl
      unfold bestR; simp only; omega
  · rw [if_neg h]; simp
/-- A street that can have one hour alone. -/
def fixS (r : Ros) (st : Nat) (h : Int) : Ros := { r with strs := r.strs.modify st fun s => { s with frm := h, to := h } }
def bHit (r : Ros) (st : Nat) (n h : Int) : Bool := decide (0 ≤ (bestR stepsI (fixS r st h)).2) && ((bestR stepsI (fixS r st h)).1 == n)
def staysTo (r : Ros) (st : Nat) (n : Int) (s : Str) (j : Nat) : Bool := (List.range j).any fun k => bHit r st n (s.frm + (k : Int)) && (s.frm + (k : Int) == s.has)
def goesTo (r : Ros) (st : Nat) (n : Int) (s : Str) (j : Nat) : Bool := (List.range j).any fun k => bHit r st n (s.frm + (k : Int)) && (s.frm + (k : Int) != s.has)
theorem staysTo_succ (r : Ros) (st : Nat) (n : Int) (s : Str) (j : Nat) : staysTo r st n s (j + 1) = (staysTo r st n s j || (bHit r st n (s.frm + (j : Int)) && (s.frm + (j : Int) == s.has))) := by
  simp [staysTo, List.range_succ]
theorem goesTo_succ (r : Ros) (st : Nat) (n : Int) (s : Str) (j : Nat) : goesTo r st n s (j + 1) = (goesTo r st n s j || (bHit r st n (s.frm + (j : Int)) && (s.frm + (j : Int) != s.has))) := by
  simp [goesTo, List.range_succ]
def wide (s : Str) : Nat := (s.to - s.frm + 1).toNat
def boundR (r : Ros) (st : Int) : Int × Int :=
  if (knownR stepsI r (isStreet r st)).2 = 0 then
    (let s := r.strs.getD st.toNat default
     let n := (knownR stepsI r (isStreet r st)).1
     if s.has = -1 then (2, 0) else if goesTo r st.toNat n s (wide s) = false then (1, 0) else if staysTo r st.toNat n s (wide s) = false then (2, 0) else (3, 0))
  else (0, (knownR stepsI r (isStreet r st)).2)
theorem fixS_len (r : Ros) (st : Nat) (h : Int) : (fixS r st h).strs.length = r.strs.length := by simp [fixS]
theorem fixS_ok {r : Ros} (hv : ROk r) (st : Nat) {h : Int} (h0 : 0 ≤ h) (h1 : h ≤ 7) : ∀ s ∈ (fixS r st h).strs, StrOk s := by
  intro s hs
  obtain ⟨k, hk, rfl⟩ := List.mem_iff_getElem.1 hs
  have hk' : k < r.strs.length := by simpa [fixS] using hk
  have ho := (hv.so r.strs[k] (List.getElem_mem hk')).1
  simp only [fixS, List.getElem_modify]
  split
  · exact ⟨ho.has0, ho.has1, h0, Int.le_refl _, h1, ho.cost0, ho.cost1⟩
  · exact ho
theorem knownR_zero {w : Str → Int → Int} {r : Ros} {is : Bool} (h : (knownR w r is).2 = 0) : ROk r ∧ is = true ∧ 0 ≤ (bestR w r).2 ∧ (knownR w r is).1 = (bestR w r).1 := by
  unfold knownR at h ⊢
  by_cases ha : askE r is = 0
  · rw [if_pos ha] at h ⊢
    by_cases hb : (bestR w r).2 < 0
    · rw [if_pos hb] at h; simp at h
    · rw [if_neg hb]
      exact ⟨valid_iff.1 (askE_zero.1 ha).1, (askE_zero.1 ha).2, by omega, rfl⟩
  · rw [if_neg ha] at h; exact absurd h ha
end Go.Proofs.Ytokendenofbnhaa
