/- More arguments opened: structs of integers, a list of integers. -/
import Derived.Test.YtbddaemekgflmaaRow
namespace Go.Proofs.Ytbddaemekgflmaa
open Go.ChangeShapes Go.WideShapes Go.ChangeAt Go.RowKit Go.Deep Go.Joins
section
variable {H : Type} {enc : TypeId × Value → H} {W : World}
set_option maxRecDepth 20000 in
theorem open_some {base : Nat} {v : Value} {d : DataW H} {p : List MemPlace} (hval : Value.okWide Try.prog W .any base 27 v) (h : DataW.Trod enc Try.prog W 0 (fun _ => true) true 27 v d p) : ∃ a b c e : Int, v = .agg #[I a, I b, I c, I e] := by
  obtain ⟨v0, v1, v2, v3, y0, y1, y2, y3, n, rfl, _, _, h0, h1, h2, h3⟩ := open_agg4 Try.underlying27 (by kernel_rfl) (by kernel_rfl) hval h
  obtain ⟨a, e0⟩ := int_cell h0
  obtain ⟨b, e1⟩ := int_cell h1
  obtain ⟨c, e2⟩ := int_cell h2
  obtain ⟨e, e3⟩ := int_cell h3
  simp only [List.cons.injEq, and_true] at e0 e1 e2 e3
  exact ⟨a, b, c, e, by rw [e0, e1, e2, e3]⟩
set_option maxRecDepth 20000 in
theorem open_times {base : Nat} {v : Value} {d : DataW H} {p : List MemPlace} (hval : Value.okWide Try.prog W .any base 50 v) (h : DataW.Trod enc Try.prog W 0 (fun _ => true) true 50 v d p) : ∃ a b : Int, v = .agg #[I a, I b] := by
  obtain ⟨v0, v1, y0, y1, n, rfl, _, _, h0, h1⟩ := open_agg2 Try.underlying50 (by kernel_rfl) (by kernel_rfl) hval h
  obtain ⟨a, e0⟩ := int_cell h0
  obtain ⟨b, e1⟩ := int_cell h1
  simp only [List.cons.injEq, and_true] at e0 e1
  exact ⟨a, b, by rw [e0, e1]⟩
set_option maxRecDepth 20000 in
theorem open_list {base : Nat} {v : Value} {d : DataW H} {p : List MemPlace} (hval : Value.okWide Try.prog W .any base 23 v) (h : DataW.Trod enc Try.prog W 0 (fun _ => true) true 23 v d p) : ∃ xs : List Int, Ints W v xs := by
  obtain ⟨fuel, hf⟩ := h
  obtain ⟨A, l, c, rfl⟩ := okWide_slice Try.underlying23 hval
  exact ints_of hf
end
end Go.Proofs.Ytbddaemekgflmaa
