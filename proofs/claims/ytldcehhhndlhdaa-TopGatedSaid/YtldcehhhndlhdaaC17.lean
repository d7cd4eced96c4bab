/- Readings of slices, cell by cell. -/
import Derived.Test.YtldcehhhndlhdaaC15
namespace Go.Proofs.Ytldcehhhndlhdaa
open Go.RowKit Go.Sort

theorem Ints.some_ {w : World} {A : Option Addr} {c : Nat} {xs : List Int} (h : Ints w (.slice A xs.length c) xs) (hn : 0 < xs.length) : ∃ b o, A = some ⟨b, o, none⟩ ∧ b < w.heap.size := by
  obtain ⟨A', c', e, h1, h2, h3⟩ := h.open_
  obtain ⟨rfl, -, rfl⟩ := slice_inj e
  obtain ⟨b, o, h4, h5, _⟩ := h3 hn
  exact ⟨b, o, h4, h5⟩
theorem Ints.at_ {w : World} {b o c : Nat} {xs : List Int} (h : Ints w (.slice (some ⟨b, o, none⟩) xs.length c) xs) (j : Nat) (hj : j < xs.length) : w.cell? ⟨b, o + j, none⟩ = some (I xs[j]) := by
  obtain ⟨A', c', e, h1, h2, h3⟩ := h.open_
  obtain ⟨rfl, -, rfl⟩ := slice_inj e
  obtain ⟨b', o', h4, h5, h6⟩ := h3 (by omega)
  injection h4 with h4
  injection h4 with e1 e2
  subst e1 e2
  exact h6 j hj
theorem Ints.take {w : World} {A : Option Addr} {c : Nat} {xs : List Int} (h : Ints w (.slice A xs.length c) xs) (k : Nat) (hk : k ≤ xs.length) : Ints w (.slice A k c) (xs.take k) := by
  obtain ⟨A', c', e, h1, h2, h3⟩ := h.open_
  obtain ⟨rfl, -, rfl⟩ := slice_inj e
  have hl : (xs.take k).length = k := by simp; omega
  refine ⟨by simp, A, c, by rw [hl], by omega, h2, fun hn => ?_⟩
  obtain ⟨b, o, rfl, _, hc⟩ := h3 (by omega)
  refine ⟨b, o, rfl, fun j u hu => ?_⟩
  rw [List.getElem?_map] at hu
  cases hj : (xs.take k)[j]? with
  | none => rw [hj] at hu; simp at hu
  | some z =>
    rw [hj] at hu
    simp only [Option.map_some, Option.some.injEq] at hu
    subst hu
    have hj1 := (List.getElem?_eq_some_iff.1 hj).1
    rw [List.getElem?_take] at hj
    split at hj
    · obtain ⟨h5, h6⟩ := List.getElem?_eq_some_iff.1 hj
      rw [hc j h5, h6]
    · cases hj

theorem Pts.some_ {w : World} {A : Option Addr} {c : Nat} {ps : List Pt} (h : Pts w (.slice A ps.length c) ps) (hn : 0 < ps.length) : ∃ b o, A = some ⟨b, o, none⟩ ∧ b < w.heap.size := by
  obtain ⟨A', c', e, h1, h2, h3⟩ := h.open_
  obtain ⟨rfl, -, rfl⟩ := slice_inj e
  obtain ⟨b, o, h4, h5, _⟩ := h3 hn
  exact ⟨b, o, h4, h5⟩
theorem Pts.at_ {w : World} {b o c : Nat} {ps : List Pt} (h : Pts w (.slice (some ⟨b, o, none⟩) ps.length c) ps) (j : Nat) (hj : j < ps.length) : w.cell? ⟨b, o + j * 3, none⟩ = some (I ps[j].lo) ∧ w.cell? ⟨b, o + j * 3 + 1, none⟩ = some (I ps[j].hi) ∧ w.cell? ⟨b, o + j * 3 + 2, none⟩ = some (I ps[j].cost) := by
  obtain ⟨A', c', e, h1, h2, h3⟩ := h.open_
  obtain ⟨rfl, -, rfl⟩ := slice_inj e
  obtain ⟨b', o', h4, h5, h6⟩ := h3 (by omega)
  injection h4 with h4
  injection h4 with e1 e2
  subst e1 e2
  exact h6 j hj

end Go.Proofs.Ytldcehhhndlhdaa
