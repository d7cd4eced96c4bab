/- More arguments opened: 'More'. -/
import Derived.Test.YtokendenofbnhaaRow
namespace Go.Proofs.Ytokendenofbnhaa
open Go.ChangeShapes Go.WideShapes Go.ChangeAt Go.RowKit Go.Deep Go.Joins
section
variable {H : Type} {enc : TypeId × Value → H} {W : World}
theorem bool_cell {b n : Nat} {sp : Nat → Bool} {hd : Bool} {cs : List Value} {y : DataW H × List MemPlace} (h : DataW.trod enc Try.prog W b sp hd n 4 cs = some y) : ∃ z : Bool, cs = [.bool z] := by
  obtain ⟨z, e, _⟩ := DataW.trod_bool Try.underlying4 h
  exact ⟨z, e⟩
set_option maxRecDepth 20000 in
theorem more_cells {b n : Nat} {sp : Nat → Bool} {hd : Bool} {cs : List Value} {y : DataW H × List MemPlace} (h : DataW.trod enc Try.prog W b sp hd n 55 cs = some y) : ∃ (x0 x1 x2 : Int) (x3 x4 : Bool), cs = [I x0, I x1, I x2, .bool x3, .bool x4] := by
  obtain ⟨xs, m, _, _, hl, hx, hf⟩ := DataW.trod_struct Try.underlying55 h
  have hl5 : cs.length = 5 := hl.trans (by kernel_rfl)
  match cs, hl5 with
  | [c0, c1, c2, c3, c4], _ =>
    have h0 := hf 0 _ rfl
    have h1 := hf 1 _ rfl
    have h2 := hf 2 _ rfl
    have h3 := hf 3 _ rfl
    have h4 := hf 4 _ rfl
    have hxl : xs.length = 5 := hx
    rw [List.getElem?_eq_getElem (show 0 < xs.length by omega)] at h0
    rw [List.getElem?_eq_getElem (show 1 < xs.length by omega)] at h1
    rw [List.getElem?_eq_getElem (show 2 < xs.length by omega)] at h2
    rw [List.getElem?_eq_getElem (show 3 < xs.length by omega)] at h3
    rw [List.getElem?_eq_getElem (show 4 < xs.length by omega)] at h4
    obtain ⟨z0, e0⟩ := int_cell h0
    obtain ⟨z1, e1⟩ := int_cell h1
    obtain ⟨z2, e2⟩ := int_cell h2
    obtain ⟨z3, e3⟩ := bool_cell h3
    obtain ⟨z4, e4⟩ := bool_cell h4
    have hc : Try.prog.cellsOf 3 = 1 := by kernel_rfl
    have hc2 : Try.prog.cellsOf 4 = 1 := by kernel_rfl
    simp [hc, hc2] at e0 e1 e2 e3 e4
    exact ⟨z0, z1, z2, z3, z4, by rw [e0, e1, e2, e3, e4]⟩
set_option maxRecDepth 20000 in
theorem open_more {base : Nat} {v : Value} {d : DataW H} {p : List MemPlace} (hval : Value.okWide Try.prog W .any base 55 v) (h : DataW.Trod enc Try.prog W 0 (fun _ => true) true 55 v d p) : ∃ (a b c : Int) (e f : Bool), v = .agg #[I a, I b, I c, .bool e, .bool f] := by
  obtain ⟨cs, rfl, hsz⟩ := okWide_struct Try.underlying55 hval
  obtain ⟨fuel, hf⟩ := h
  obtain ⟨a, b, c, e, f, hcs⟩ := more_cells hf
  have : cs = #[I a, I b, I c, .bool e, .bool f] := by
    have h := congrArg List.toArray hcs
    simpa [Value.cells] using h
  exact ⟨a, b, c, e, f, by rw [this]⟩
end
end Go.Proofs.Ytokendenofbnhaa
