/- More arguments opened: 'Ask', 'More'. -/
import Derived.Test.YtplbaijdnpfdgaaRow
namespace Go.Proofs.Ytplbaijdnpfdgaa
open Go.ChangeShapes Go.WideShapes Go.ChangeAt Go.RowKit Go.Deep Go.Joins
section
variable {H : Type} {enc : TypeId × Value → H} {W : World}
set_option maxRecDepth 20000 in
theorem open_ask {base : Nat} {v : Value} {d : DataW H} {p : List MemPlace} (hval : Value.okWide Try.prog W .any base 38 v) (h : DataW.Trod enc Try.prog W 0 (fun _ => true) true 38 v d p) : ∃ a b c e : Int, v = .agg #[I a, I b, I c, I e] := by
  obtain ⟨v0, v1, v2, v3, y0, y1, y2, y3, n, rfl, _, _, h0, h1, h2, h3⟩ := open_agg4 Try.underlying38 (by kernel_rfl) (by kernel_rfl) hval h
  obtain ⟨a, e0⟩ := int_cell h0
  obtain ⟨b, e1⟩ := int_cell h1
  obtain ⟨c, e2⟩ := int_cell h2
  obtain ⟨e, e3⟩ := int_cell h3
  simp only [List.cons.injEq, and_true] at e0 e1 e2 e3
  exact ⟨a, b, c, e, by rw [e0, e1, e2, e3]⟩
set_option maxRecDepth 20000 in
theorem more_cells {b n : Nat} {sp : Nat → Bool} {hd : Bool} {cs : List Value} {y : DataW H × List MemPlace} (h : DataW.trod enc Try.prog W b sp hd n 70 cs = some y) : ∃ (s : Snd) (p : Slp), cs = [I s.well, I s.low, I s.high, I p.a, I p.b, I p.low, I p.high] := by
  obtain ⟨xs, m, _, _, hl, hx, hf⟩ := DataW.trod_struct Try.underlying70 h
  have hl7 : cs.length = 7 := hl.trans (by kernel_rfl)
  match cs, hl7 with
  | [c0, c1, c2, c3, c4, c5, c6], _ =>
    have h0 := hf 0 _ rfl
    have h1 := hf 1 _ rfl
    have hxl : xs.length = 2 := hx
    rw [List.getElem?_eq_getElem (show 0 < xs.length by omega)] at h0
    rw [List.getElem?_eq_getElem (show 1 < xs.length by omega)] at h1
    obtain ⟨s, e0⟩ := snd_cells h0
    obtain ⟨p, e1⟩ := slp_cells h1
    have hc : Try.prog.cellsOf 57 = 3 := by kernel_rfl
    have hc2 : Try.prog.cellsOf 47 = 4 := by kernel_rfl
    simp [hc, hc2] at e0 e1
    obtain ⟨e00, e01, e02⟩ := e0
    obtain ⟨e10, e11, e12, e13⟩ := e1
    exact ⟨s, p, by rw [e00, e01, e02, e10, e11, e12, e13]⟩
set_option maxRecDepth 20000 in
theorem open_more {base : Nat} {v : Value} {d : DataW H} {p : List MemPlace} (hval : Value.okWide Try.prog W .any base 70 v) (h : DataW.Trod enc Try.prog W 0 (fun _ => true) true 70 v d p) : ∃ (s : Snd) (p : Slp), v = .agg #[I s.well, I s.low, I s.high, I p.a, I p.b, I p.low, I p.high] := by
  obtain ⟨cs, rfl, hsz⟩ := okWide_struct Try.underlying70 hval
  obtain ⟨fuel, hf⟩ := h
  obtain ⟨s, p, hcs⟩ := more_cells hf
  have : cs = #[I s.well, I s.low, I s.high, I p.a, I p.b, I p.low, I p.high] := by
    have h := congrArg List.toArray hcs
    simpa [Value.cells] using h
  exact ⟨s, p, by rw [this]⟩
end
end Go.Proofs.Ytplbaijdnpfdgaa
