/- More arguments opened: a gauge. -/
import Derived.Test.YtbddaemekgflmaaRow
namespace Go.Proofs.Ytbddaemekgflmaa
open Go.ChangeShapes Go.WideShapes Go.ChangeAt Go.RowKit Go.Deep Go.Joins
section
variable {H : Type} {enc : TypeId × Value → H} {W : World}
set_option maxRecDepth 20000 in
theorem gauge_cells {b n : Nat} {sp : Nat → Bool} {hd : Bool} {cs : List Value} {y : DataW H × List MemPlace} (h : DataW.trod enc Try.prog W b sp hd n 66 cs = some y) : ∃ x0 x1 x2 x3 x4 : Int, cs = [I x0, I x1, I x2, I x3, I x4] := by
  obtain ⟨xs, m, _, _, hl, hx, hf⟩ := DataW.trod_struct Try.underlying66 h
  have hl5 : cs.length = 5 := hl.trans (by kernel_rfl)
  match cs, hl5 with
  | [c0, c1, c2, c3, c4], _ =>
    have h0 := hf 0 _ rfl
    have h1 := hf 1 _ rfl
    have h2 := hf 2 _ rfl
    have h3 := hf 3 _ rfl
    have hxl : xs.length = 4 := hx
    rw [List.getElem?_eq_getElem (show 0 < xs.length by omega)] at h0
    rw [List.getElem?_eq_getElem (show 1 < xs.length by omega)] at h1
    rw [List.getElem?_eq_getElem (show 2 < xs.length by omega)] at h2
    rw [List.getElem?_eq_getElem (show 3 < xs.length by omega)] at h3
    obtain ⟨a, e0⟩ := int_cell h0
    obtain ⟨x, z, e1⟩ := span_cells h1
    obtain ⟨k, e2⟩ := int_cell h2
    obtain ⟨l, e3⟩ := int_cell h3
    have hc : Try.prog.cellsOf 3 = 1 := by kernel_rfl
    have hc2 : Try.prog.cellsOf 34 = 2 := by kernel_rfl
    simp [hc] at e0 e2 e3
    simp [hc2] at e1
    exact ⟨a, x, z, k, l, by rw [e0, e1.1, e1.2, e2, e3]⟩
set_option maxRecDepth 20000 in
theorem open_gauge {base : Nat} {v : Value} {d : DataW H} {p : List MemPlace} (hval : Value.okWide Try.prog W .any base 66 v) (h : DataW.Trod enc Try.prog W 0 (fun _ => true) true 66 v d p) : ∃ a b c e f : Int, v = .agg #[I a, I b, I c, I e, I f] := by
  obtain ⟨cs, rfl, hsz⟩ := okWide_struct Try.underlying66 hval
  obtain ⟨fuel, hf⟩ := h
  obtain ⟨a, b, c, e, f, hcs⟩ := gauge_cells hf
  have : cs = #[I a, I b, I c, I e, I f] := by
    have h := congrArg List.toArray hcs
    simpa [Value.cells] using h
  exact ⟨a, b, c, e, f, by rw [this]⟩
end
end Go.Proofs.Ytbddaemekgflmaa
