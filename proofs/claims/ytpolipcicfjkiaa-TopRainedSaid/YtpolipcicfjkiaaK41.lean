/- TopRained's arguments opened: a cistern's year, a gauging. Conditions: none. -/
import Derived.Test.YtpolipcicfjkiaaK40
import Derived.Conc.LeavingOf
namespace Go.Proofs.Ytpolipcicfjkiaa
open Go.ChangeShapes Go.WideShapes Go.ChangeAt Go.RowKit Go.Deep Go.Joins

section
variable {H : Type} {enc : TypeId × Value → H} {W : World} {b : Nat} {sp : Nat → Bool} {hd : Bool}
set_option maxRecDepth 20000 in
theorem cd_cells {n : Nat} {cs : List Value} {y : DataW H × List MemPlace} (h : DataW.trod enc Try.prog W b sp hd n 59 cs = some y) : ∃ p : Pt, cs = p.cells := by
  obtain ⟨xs, m, _, _, hl, hx, hf⟩ := DataW.trod_struct Try.underlying59 h
  have hl3 : cs.length = 3 := hl.trans (by kernel_rfl)
  match cs, hl3 with
  | [c0, c1, c2], _ =>
    have h0 := hf 0 _ rfl
    have h1 := hf 1 _ rfl
    have hxl : xs.length = 2 := hx
    rw [List.getElem?_eq_getElem (show 0 < xs.length by omega)] at h0
    rw [List.getElem?_eq_getElem (show 1 < xs.length by omega)] at h1
    obtain ⟨x, z, e0⟩ := span_cells h0
    obtain ⟨k, e1⟩ := int_cell h1
    have hc : Try.prog.cellsOf 3 = 1 := by kernel_rfl
    have hc2 : Try.prog.cellsOf 30 = 2 := by kernel_rfl
    simp [hc2] at e0
    simp [hc] at e1
    exact ⟨⟨x, z, k⟩, by rw [e0.1, e0.2, e1]; rfl⟩

theorem days_of {n : Nat} {c : Value} {y : DataW H × List MemPlace} (h : DataW.trod enc Try.prog W b (fun _ => true) hd n 22 [c] = some y) : ∃ ps : List Pt, Pts W c ps := by
  rcases open_slice Try.underlying22 h with ⟨e, _⟩ | ⟨a, len, cap, m, k, D, Pl, e, _, hl, hm, hmm, _, hi⟩
  · simp only [List.cons.injEq, and_true] at e
    subst e
    exact ⟨[], ⟨rfl, none, 0, rfl, by simp, by omega, fun h => absurd h (by simp)⟩⟩
  · simp only [List.cons.injEq, and_true] at e
    subst e
    have hC : Try.prog.cellsOf 59 = 3 := by kernel_rfl
    rw [hC] at hi
    have hmc : m = cap := by simpa using hmm
    have hex : ∀ i : Fin len, ∃ p : Pt, ∀ r u, p.cells[r]? = some u → W.cell? (a.add (i.1 * 3 + r)) = some u := by
      intro i
      obtain ⟨cs', h1, h2⟩ := hi i.1 (by have := i.2; omega)
      obtain ⟨p, rfl⟩ := cd_cells h2
      obtain ⟨_, _, h3⟩ := World.cells?_some h1
      refine ⟨p, fun r u hu => ?_⟩
      have hr : r < 3 := (List.getElem?_eq_some_iff.1 hu).1
      have := h3 r hr
      rw [hu, Go.Deep.add_add] at this
      exact this
    obtain ⟨F, hF⟩ : ∃ F : Fin len → Pt, ∀ i r u, (F i).cells[r]? = some u → W.cell? (a.add (i.1 * 3 + r)) = some u := ⟨fun i => (hex i).choose, fun i => (hex i).choose_spec⟩
    have hlen : (List.ofFn F).length = len := by simp
    refine ⟨List.ofFn F, ?_⟩
    unfold Pts
    rw [hlen]
    refine reads_of (by omega) hl (by simpa [maxLen] using hm) _ (by rw [ptCells_length, hlen]) (fun j u hu => ?_)
    obtain ⟨i, hil, r, hr, rfl, hu'⟩ := ptCells_get _ j u hu
    rw [List.getElem_ofFn] at hu'
    exact hF ⟨i, by rw [hlen] at hil; exact hil⟩ r u hu'

set_option maxRecDepth 20000 in
theorem open_year {base : Nat} {v : Value} {d : DataW H} {p : List MemPlace} (hval : Value.okWide Try.prog W .any base 24 v) (h : DataW.Trod enc Try.prog W 0 (fun _ => true) true 24 v d p) : ∃ y : CY, YAt W v y := by
  obtain ⟨cs, rfl, hsz⟩ := okWide_struct Try.underlying24 hval
  obtain ⟨fuel, hf0⟩ := h
  obtain ⟨xs, m, _, _, hl, hx, hf⟩ := DataW.trod_struct Try.underlying24 hf0
  have hl3 : cs.size = 3 := hsz.trans (by kernel_rfl)
  obtain ⟨l⟩ := cs
  match l, hl3 with
  | [c0, c1, c2], _ =>
    have h0 := hf 0 _ rfl
    have h1 := hf 1 _ rfl
    have h2 := hf 2 _ rfl
    have hxl : xs.length = 3 := hx
    rw [List.getElem?_eq_getElem (show 0 < xs.length by omega)] at h0
    rw [List.getElem?_eq_getElem (show 1 < xs.length by omega)] at h1
    rw [List.getElem?_eq_getElem (show 2 < xs.length by omega)] at h2
    have hc : Try.prog.cellsOf 3 = 1 := by kernel_rfl
    have hc2 : Try.prog.cellsOf 22 = 1 := by kernel_rfl
    obtain ⟨s, e0⟩ := int_cell h0
    obtain ⟨t, e1⟩ := int_cell h1
    simp [hc, Value.cells] at e0 e1
    have h2' : DataW.trod enc Try.prog W 0 (fun _ => true) true m 22 [c2] = some xs[2] := by simpa [hc2, Value.cells] using h2
    obtain ⟨ps, hp⟩ := days_of h2'
    exact ⟨⟨s, t, ps⟩, c2, by rw [e0, e1], hp⟩

set_option maxRecDepth 20000 in
theorem rained_cells {n : Nat} {cs : List Value} {y : DataW H × List MemPlace} (h : DataW.trod enc Try.prog W b sp hd n 32 cs = some y) : ∃ x0 x1 x2 x3 : Int, cs = [I x0, I x1, I x2, I x3] := by
  obtain ⟨xs, m, _, _, hl, hx, hf⟩ := DataW.trod_struct Try.underlying32 h
  have hl4 : cs.length = 4 := hl.trans (by kernel_rfl)
  match cs, hl4 with
  | [c0, c1, c2, c3], _ =>
    have h0 := hf 0 _ rfl
    have h1 := hf 1 _ rfl
    have h2 := hf 2 _ rfl
    have hxl : xs.length = 3 := hx
    rw [List.getElem?_eq_getElem (show 0 < xs.length by omega)] at h0
    rw [List.getElem?_eq_getElem (show 1 < xs.length by omega)] at h1
    rw [List.getElem?_eq_getElem (show 2 < xs.length by omega)] at h2
    obtain ⟨a, e0⟩ := int_cell h0
    obtain ⟨x, z, e1⟩ := span_cells h1
    obtain ⟨k, e2⟩ := int_cell h2
    have hc : Try.prog.cellsOf 3 = 1 := by kernel_rfl
    have hc2 : Try.prog.cellsOf 30 = 2 := by kernel_rfl
    simp [hc] at e0 e2
    simp [hc2] at e1
    exact ⟨a, x, z, k, by rw [e0, e1.1, e1.2, e2]⟩
set_option maxRecDepth 20000 in
theorem open_rained {base : Nat} {v : Value} {d : DataW H} {p : List MemPlace} (hval : Value.okWide Try.prog W .any base 32 v) (h : DataW.Trod enc Try.prog W 0 (fun _ => true) true 32 v d p) : ∃ a b c e : Int, v = .agg #[I a, I b, I c, I e] := by
  obtain ⟨cs, rfl, hsz⟩ := okWide_struct Try.underlying32 hval
  obtain ⟨fuel, hf⟩ := h
  obtain ⟨a, b, c, e, hcs⟩ := rained_cells hf
  have : cs = #[I a, I b, I c, I e] := by
    have h := congrArg List.toArray hcs
    simpa [Value.cells] using h
  exact ⟨a, b, c, e, by rw [this]⟩
end
end Go.Proofs.Ytpolipcicfjkiaa
/- TopRained: the row. Conditions: none. -/
namespace Go.Proofs.Ytpolipcicfjkiaa
open Go.ChangeShapes Go.WideShapes Go.ChangeAt Go.RowKit Go.Deep Go.Joins

theorem view_cell {c0 : Nat → Cy.Cls} {W : World} (hc : ∀ b c e fr, W.heap[b]? = some (.cells c e fr) → c0 b = .mine 0) {b i : Nat} {u : Value} (h : W.cell? ⟨b, i, none⟩ = some u) : (Cy.view c0 0 W).cell? ⟨b, i, none⟩ = some u := by
  obtain ⟨c, e, fr, hb, hi⟩ := cell_open h
  have hv : (Cy.view c0 0 W).heap[b]? = some (.cells c e fr) := Cy.seen_at hb (hc b c e fr hb)
  unfold World.cell? at h ⊢
  rw [hv]
  rw [hb] at h
  exact h
theorem view_reads {c0 : Nat → Cy.Cls} {W : World} (hc : ∀ b c e fr, W.heap[b]? = some (.cells c e fr) → c0 b = .mine 0) {size n : Nat} {v : Value} {xs : List Value} (h : Reads W size v n xs) : Reads (Cy.view c0 0 W) size v n xs := by
  obtain ⟨h1, A, c, h2, h3, h4, h5⟩ := h
  refine ⟨h1, A, c, h2, h3, h4, fun hn => ?_⟩
  obtain ⟨b, o, ha, hcell⟩ := h5 hn
  exact ⟨b, o, ha, fun j u hu => view_cell hc (hcell j u hu)⟩

open Classical in
/-- What is seen at the start: all but what no quiet goroutine could meet. -/
noncomputable def cls0 (W : World) (b : Nat) : Cy.Cls := if ∀ o, W.heap[b]? = some o → Cy.tameObj o then .mine 0 else .none

set_option maxRecDepth 100000 in
theorem top_fin {W : World} {Post : Value → World → Prop} {y : CY} {d : DLine} {yv dv : Value} {pt lo hi day : Int} (hY : YAt W yv y) (hD : LineAt W dv d) (hpost : ∀ w, Cy.Old W.heap.size W w → Post (.bool true) w) :
    Cy.Fin Post (Conc.solo (Conc.G (Frame.enter Try.prog 3 #[yv, dv, .agg #[I pt, I lo, I hi, I day]] .normal) []) W) #[] := by
  have hc : ∀ b c e fr, W.heap[b]? = some (.cells c e fr) → cls0 W b = .mine 0 := fun b c e fr hb => by
    unfold cls0
    rw [if_pos]
    intro o ho
    rw [hb] at ho
    cases ho
    trivial
  have htwo : ∀ b, cls0 W b = .none ∨ cls0 W b = .mine 0 := fun b => by
    unfold cls0
    split
    · exact .inr rfl
    · exact .inl rfl
  obtain ⟨pv, rfl, hp⟩ := hY
  obtain ⟨dp, dq, rfl, hd1, hd2⟩ := hD
  have hok := start_ok (B := W.heap.size) (w0 := W) (Post := Post) (c0 := cls0 W) (v := Cy.view (cls0 W) 0 W) (pt := pt) (lo := lo) (hi := hi) (day := day) rfl (Cy.view_size _ _ _) hpost ⟨pv, rfl, view_reads hc hp⟩ ⟨dp, dq, rfl, view_reads hc hd1, view_reads hc hd2⟩
  have hfr : Frame.enter Try.prog 3 #[.agg #[I y.size, I y.start, pv], .agg #[dp, dq], .agg #[I pt, I lo, I hi, I day]] .normal = (Go.Conc.base 3).at ⟨#[.agg #[I y.size, I y.start, pv], .agg #[dp, dq], .agg #[I pt, I lo, I hi, I day], undef, undef, undef, undef, undef, undef, undef, undef, undef, undef, undef, undef, undef, undef, undef, undef, undef, undef, undef, undef, undef, undef, undef, undef, undef, undef, undef, undef, undef, undef, undef, undef, undef, undef, undef, undef, undef, undef, undef, undef, undef, undef, undef, undef, undef, undef, undef, undef, undef, undef, undef, undef, undef, undef, undef, undef, undef, undef, undef, undef, undef, undef, undef, undef, undef, undef, undef, undef, undef, undef, undef, undef, undef, undef, undef, undef, undef, undef, undef, undef, undef, undef, undef, undef, undef, undef, undef, undef, undef, undef, undef, undef, undef, undef, undef, undef, undef, undef, undef, undef, undef, undef, undef, undef, undef, undef, undef, undef, undef, undef, undef, undef, undef, undef, undef, undef, undef, undef, undef, undef, undef, undef, undef, undef, undef, undef, undef, undef, undef, undef, undef, undef, undef, undef, undef, undef, undef, undef, undef, undef, undef, undef, undef, undef, undef, undef, undef, undef, undef, undef, undef, undef, undef, undef, undef, undef, undef, undef, undef, undef, undef, undef, undef, undef, undef, undef, undef, undef, undef, undef, undef, undef, undef, undef, undef, undef, undef, undef, undef, undef, undef, undef, undef, undef, undef, undef, undef, undef, undef, undef, undef, undef, undef, undef, undef, undef, undef, undef, undef, undef, undef, undef, undef, undef, undef, undef, undef, undef, undef, undef, undef, undef, undef, undef, undef, undef, undef, undef, undef, undef, undef, undef, undef, undef, undef, undef, undef, undef, undef, undef, undef, undef, undef, undef, undef, undef, undef, undef, undef, undef, undef, undef, undef, undef, undef, undef, undef, undef, undef, undef, undef, undef, undef, undef, undef, undef, undef, undef, undef, undef, undef, undef, undef, undef, undef, undef, undef, undef, undef, undef, undef, undef, undef, undef, undef, undef, undef, undef, undef, undef, undef, undef, undef, undef, undef, undef, undef, undef, undef, undef, undef, undef, undef, undef], []⟩ [.code (cd3 0)] := by
    rw [Go.Conc.enter_at _ (show Try.prog.funcs[3]? = some Try.f3 from Try.func3) (c := code3) rfl]
    kernel_rfl
  rw [hfr, Conc.solo_eq_crowd]
  refine hok _ W none #[] (cls0 W) ⟨rfl, ⟨fun _ => 0, Conc.leavers_one Try.prog _⟩, ?_, htwo, fun l hl => hl.elim, ?_⟩ rfl (fun b _ => rfl) (fun b _ _ => rfl) rfl rfl rfl
  · exact ⟨Conc.past_nil.clean, Conc.past_nil.known, Conc.past_nil.over, Conc.past_nil.hears, fun op hop => by simp at hop⟩
  · exact Cy.tidy_view fun b o hm ho => by
      unfold cls0 at hm
      split at hm
      · rename_i h
        exact h o ho
      · cases hm

end Go.Proofs.Ytpolipcicfjkiaa
