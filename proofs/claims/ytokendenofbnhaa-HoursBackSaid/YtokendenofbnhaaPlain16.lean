/- HoursOrder, HoursBack: what the loops make. No program here. -/
import Derived.Test.YtokendenofbnhaaPlain15
namespace Go.Proofs.Ytokendenofbnhaa
/-- The streets from the B-th on, as far as the loop has come. -/
def rotTo {α : Type} (ss : List α) (B k : Nat) : List α := (rotL (B % ss.length) ss).take k ++ ss.drop k
theorem rotTo_len {α : Type} (ss : List α) (B k : Nat) (h : k ≤ ss.length) : (rotTo ss B k).length = ss.length := by
  unfold rotTo
  rw [List.length_append, List.length_take, List.length_drop, rotL_len]
  omega
theorem rotTo_zero {α : Type} (ss : List α) (B : Nat) : rotTo ss B 0 = ss := by simp [rotTo]
theorem rotTo_all {α : Type} (ss : List α) (B : Nat) : rotTo ss B ss.length = rotL (B % ss.length) ss := by
  unfold rotTo
  rw [List.drop_length, List.append_nil, List.take_of_length_le (by rw [rotL_len]; omega)]
theorem set_mid {α : Type} : ∀ (a b : List α) (k : Nat), a.length = b.length → (h : k < a.length) → (a.take k ++ b.drop k).set k a[k] = a.take (k + 1) ++ b.drop (k + 1)
  | [], _, _, _, h => by simp at h
  | _ :: _, [], _, h, _ => by simp at h
  | a :: as, b :: bs, 0, _, _ => by simp
  | a :: as, b :: bs, k + 1, h1, h2 => by
    have := set_mid as bs k (by simpa using h1) (by simpa using h2)
    simp only [List.take_succ_cons, List.drop_succ_cons, List.cons_append, List.set_cons_succ, List.getElem_cons_succ]
    rw [this]
theorem rotTo_succ {α : Type} (ss : List α) (B k : Nat) (h : k < ss.length) (hm : (k + B) % ss.length < ss.length) : (rotTo ss B k).set k ss[(k + B) % ss.length] = rotTo ss B (k + 1) := by
  have hk : k < (rotL (B % ss.length) ss).length := by rw [rotL_len]; exact h
  have e := rotL_at (B % ss.length) k ss (Nat.mod_lt _ (by omega)) h
  rw [Nat.add_mod_mod, List.getElem?_eq_getElem hk, List.getElem?_eq_getElem hm] at e
  injection e with e
  unfold rotTo
  rw [← e]
  exact set_mid _ _ k (rotL_len _ _) hk
theorem bound_rot {r : Ros} (h : ROk r) {i B : Nat} (hi : i < r.strs.length) : boundR (rotR r (B % r.strs.length)) (i : Int) = boundR r (((i + B) % r.strs.length : Nat) : Int) := by
  obtain ⟨n, hn⟩ : ∃ x, r.strs.length = x := ⟨_, rfl⟩
  obtain ⟨k, hk⟩ : ∃ x, B % n = x := ⟨_, rfl⟩
  have hkn : k < n := by rw [← hk]; exact Nat.mod_lt _ (by omega)
  have hj : (i + k) % n < n := Nat.mod_lt _ (by omega)
  rw [show (i + B) % r.strs.length = (i + k) % n by rw [hn, ← hk, Nat.add_mod_mod], hn, hk]
  have hi2 : i < (rotR r k).strs.length := by simp only [rotR]; rw [rotL_len]; exact hi
  have hj2 : (i + k) % n < r.strs.length := by rw [hn]; exact hj
  have e := rotL_at k i r.strs (by omega) hi
  rw [List.getElem?_eq_getElem (by rw [rotL_len]; exact hi)] at e
  simp only [hn] at e
  rw [List.getElem?_eq_getElem hj2] at e
  injection e with e
  have hs : (rotR r k).strs[i] = r.strs[(i + k) % n] := e
  refine (bound_same (sim_rot h (by omega)) (sim_rot_back h (k := k)) h (rotR_ok h k) hj2 hi2 (by rw [hs]) (fun _ l hl x hx => ?_) (fun _ l hl x hx => ?_)).symm
  · have hlen := goodL_length _ _ _ hl
    have e2 := rotL_at k i l (by omega) (by omega)
    rw [hlen, hn] at e2
    exact ⟨x, e2.trans hx, by rw [hs]⟩
  · have hlen : l.length = n := by
      have := goodL_length _ _ _ hl
      simp only [rotR] at this
      rw [rotL_len] at this
      omega
    refine ⟨x, ?_, by rw [hs]⟩
    have e1 : rotL k (rotL (n - k) l) = l := by
      have := rotL_back (n - k) l
      rw [hlen, show n - (n - k) = k by omega] at this
      exact this
    have e2 := rotL_at k i (rotL (n - k) l) (by rw [rotL_len]; omega) (by rw [rotL_len]; omega)
    rw [e1, rotL_len, hlen] at e2
    rw [hn]
    exact e2.symm.trans hx
/-- What 'three' says. -/
def thr (r : Ros) : Int × Int × Int × Bool := if someR r = true then ((bestR stepsI r).1, (farN r : Int), (bestR onceI r).1, true) else (0, 0, 0, false)
theorem thr_same {r o : Ros} {f g : List Int → List Int} (h : Sim r o f) (h' : Sim o r g) (hr : ROk r) (ho : ROk o) : thr o = thr r := by
  obtain ⟨e, hs⟩ := h.same h' hr ho
  unfold thr
  rw [e]
  by_cases hsr : someR r = true
  · obtain ⟨a, b, c⟩ := hs hsr
    rw [if_pos hsr, if_pos hsr, a, b, c]
  · rw [if_neg hsr, if_neg hsr]
end Go.Proofs.Ytokendenofbnhaa
