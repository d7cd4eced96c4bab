/- Walk of works: the chapter's example. -/
import Derived.Test.YtldcehhhndlhdaaC13
import Derived.ProofKit
import Derived.Deep.Slices
import Derived.Lib.SmallJoins
import Derived.Below
import Derived.Test.YtldcehhhndlhdaaC6
import Derived.Conc.Holds
namespace Go.Proofs.Ytldcehhhndlhdaa
open Go.RowKit Go.Sort

theorem ex_flow : flowR exD 1 = ((18, 22), 0) := by decide
theorem ex_loss : lossR exD 3 = ((0, 10), 0) := by decide
theorem ex_whole : wholeR exD = ((8, 13), 0) := by decide
theorem ex_worst : worstR exD 0 4 = (5, 0) := by decide
theorem ex_path : pathR exD 3 = ([2, 3], 0) := by decide
theorem ex_avg : avgR exD 0 4 = ((19, 4), 0) := by decide
theorem ex_free : freeR exD 2 = (1, 0) := by decide
theorem ints_new (w : World) (a b : Int) : Ints (w.alloc (.cells #[I a, I b] 3)) (.slice (some ⟨w.heap.size, 0, none⟩) 2 2) [a, b] :=
  ⟨rfl, _, _, rfl, by simp, by decide, fun _ => ⟨_, 0, rfl, fun j u hu => by
    rw [Nat.zero_add]
    exact box_cell w _ _ j (by rw [List.getElem?_toArray]; exact hu)⟩⟩

end Go.Proofs.Ytldcehhhndlhdaa
/- How the arguments of these rows open: a line; what a row's end asks. -/
namespace Go.Proofs.Ytldcehhhndlhdaa
open Go.ChangeShapes Go.WideShapes Go.ChangeAt Go.RowKit Go.Deep Go.Joins

theorem Try.own : ownKnob Try.prog.godebug = none := by kernel_rfl
theorem Try.laidOut : laidOutB Try.prog = true := by kernel_rfl

section
variable {H : Type} {enc : TypeId × Value → H} {P : Program}
/-- The row's last step, where 'Below' is known alone (the guide's lemma). -/
theorem post_of_below {f : Func} {s : ChangeSpec} {apart fresh handsOn again : Bool} {W W' : World} {args : Array Value} {v : Value} {ds gs : List (DataW H)} {before pa pv : List MemPlace}
    (hW : DataW.Whole enc P f.params.toList s.vars apart W args.toList ds gs before)
    (hres : ∀ (b : Nat) (sp : Nat → Bool) (hd : Bool), DataW.TrodAll enc P W' b sp hd f.resultTypes.toList (v.resultList f.resultTypes.size) (s.fn H (ds ++ gs)).results [])
    (hargs : ∀ sp : Nat → Bool, (∀ p ∈ before, sp p.block = true) → DataW.TrodAll enc P W' 0 sp true f.params.toList args.toList (s.fn H (ds ++ gs)).args pa)
    (hvars : ∀ sp : Nat → Bool, (∀ p ∈ before, sp p.block = true) → DataW.TrodVars enc P W' sp s.vars (s.fn H (ds ++ gs)).vars pv)
    (hps : before = pa ++ pv) (hb : Below W.heap.size W W')
    (hok : ∀ (j : Nat) (t : TypeId) (r : Value), f.resultTypes[j]? = some t → (v.resultList f.resultTypes.size)[j]? = some r → Value.okWide P W' .any 0 t r) :
    s.post enc P f apart fresh handsOn again W args v W' := by
  have hlt : ∀ p ∈ before, p.block < W.heap.size := fun p hp => hW.lt p hp
  have hold : ∀ p ∈ before, (fun b => decide (b < W.heap.size)) p.block = true := fun p hp => by simpa using hlt p hp
  refine ⟨ds, gs, before, [], pa, pv, hW, hres _ _ _, hargs _ hold, hvars _ hold, World.keptBut_mono (fun p hp => ⟨hp, ?_⟩) (hb.frame (· ∈ before)), fun _ => ?_⟩
  · rw [hps, List.mem_append] at hp
    exact Or.inr hp
  · obtain ⟨_, _, _, _, _, hz, hn⟩ := hW
    refine ⟨hok, _, _, ([] ++ pa) ++ pv, ⟨[] ++ pa, pv, trodAll_append (hargs _ (fun _ _ => rfl)) (hres _ _ _), hvars _ (fun _ _ => rfl), rfl, ?_, ?_⟩, ?_⟩
    · intro b off hp
      have hin : MemPlace.cell b off ∈ before := by rw [hps]; simpa using hp
      rw [hb.frozen (hlt _ hin)]
      exact hz b off hin
    · intro ha
      have := hn ha
      rw [hps] at this
      simpa using this
    · intro p hp _
      rw [hps]
      simpa using hp
end

section
variable {H : Type} {enc : TypeId × Value → H} {W : World} {b : Nat} {sp : Nat → Bool} {hd : Bool}
theorem int_cell {n : Nat} {cs : List Value} {y : DataW H × List MemPlace} (h : DataW.trod enc Try.prog W b sp hd n 3 cs = some y) : ∃ z : Int, cs = [I z] := by
  obtain ⟨z, e, _⟩ := DataW.trod_int Try.underlying3 h
  exact ⟨z, e⟩
set_option maxRecDepth 20000 in
theorem span_cells {n : Nat} {cs : List Value} {y : DataW H × List MemPlace} (h : DataW.trod enc Try.prog W b sp hd n 29 cs = some y) : ∃ x z : Int, cs = [I x, I z] := by
  obtain ⟨xs, m, _, _, hl, hx, hf⟩ := DataW.trod_struct Try.underlying29 h
  have hl2 : cs.length = 2 := hl.trans (by kernel_rfl)
  match cs, hl2 with
  | [c0, c1], _ =>
    have h0 := hf 0 _ rfl
    have h1 := hf 1 _ rfl
    have hxl : xs.length = 2 := hx
    rw [List.getElem?_eq_getElem (show 0 < xs.length by omega)] at h0
    rw [List.getElem?_eq_getElem (show 1 < xs.length by omega)] at h1
    obtain ⟨x, e0⟩ := int_cell h0
    obtain ⟨z, e1⟩ := int_cell h1
    have hc : Try.prog.cellsOf 3 = 1 := by kernel_rfl
    simp [hc] at e0 e1
    exact ⟨x, z, by rw [e0, e1]⟩
set_option maxRecDepth 20000 in
theorem pt_cells {n : Nat} {cs : List Value} {y : DataW H × List MemPlace} (h : DataW.trod enc Try.prog W b sp hd n 39 cs = some y) : ∃ p : Pt, cs = p.cells := by
  obtain ⟨xs, m, _, _, hl, hx, hf⟩ := DataW.trod_struct Try.underlying39 h
  have hl3 : cs.length = 3 := hl.trans (by kernel_rfl)
  match cs, hl3 with
  | [c0, c1, c2], _ =>
    have h0 := hf 0 _ rfl
    have h1 := hf 1 _ rfl
    have hxl : xs.length = 2 := hx
    rw [List.getElem?_eq_getElem (show 0 < xs.length by omega)] at h0
    rw [List.getElem?_eq_getElem (show 1 < xs.length by omega)] at h1
    obtain ⟨x, z, e0⟩ := span_cells h0
    obtain ⟨k, e1⟩ := int_cell h1
    have hc : Try.prog.cellsOf 3 = 1 := by kernel_rfl
    have hc2 : Try.prog.cellsOf 29 = 2 := by kernel_rfl
    simp [hc2] at e0
    simp [hc] at e1
    exact ⟨⟨x, z, k⟩, by rw [e0.1, e0.2, e1]; rfl⟩

theorem spot_none {w : World} {a : Addr} {v : Value} (h : w.cell? a = some v) : a = ⟨a.block, a.off, none⟩ := by
  obtain ⟨bl, of, s⟩ := a
  cases s with
  | none => rfl
  | some k =>
    unfold World.cell? at h
    split at h <;> simp at h

/-- A list of cells by elements. -/
theorem reads_of {w : World} {A : Addr} {len cap size : Nat} (hsz : 0 < size) (hl : len ≤ cap) (hc : cap ≤ 9223372036854775807) (xs : List Value) (hx : xs.length = len * size)
    (h : ∀ j u, xs[j]? = some u → w.cell? (A.add j) = some u) : Go.Proofs.Ytldcehhhndlhdaa.Reads w size (.slice (some A) len cap) len xs := by
  refine ⟨hx, _, _, rfl, hl, hc, fun hn => ?_⟩
  have hp : 0 < xs.length := by rw [hx]; exact Nat.mul_pos hn hsz
  have h0 := h 0 xs[0] (List.getElem?_eq_getElem hp)
  have hA : A.add 0 = A := by simp [Addr.add]
  rw [hA] at h0
  have e := spot_none h0
  refine ⟨A.block, A.off, by rw [← e], fun j u hu => ?_⟩
  rw [← add_plain, ← e]
  exact h j u hu

theorem ints_of {n : Nat} {c : Value} {y : DataW H × List MemPlace} (h : DataW.trod enc Try.prog W b sp hd n 23 [c] = some y) : ∃ xs : List Int, Ints W c xs := by
  rcases open_ints Try.underlying23 Try.underlying3 (by kernel_rfl) h with ⟨e, _⟩ | ⟨a, len, cap, zs, e, _, hl, hm, hz, _, hcell, _⟩
  · simp only [List.cons.injEq, and_true] at e
    subst e
    exact ⟨[], ⟨rfl, none, 0, rfl, by simp, by omega, fun h => absurd h (by simp)⟩⟩
  · simp only [List.cons.injEq, and_true] at e
    subst e
    have hlz : len ≤ zs.length := by rw [hz]; split <;> omega
    have hl1 : (zs.take len).length = len := by simp; omega
    refine ⟨zs.take len, ?_⟩
    unfold Ints
    rw [hl1]
    refine reads_of (by omega) hl (by simpa [maxLen] using hm) _ (by simp; omega) (fun j u hu => ?_)
    rw [List.getElem?_map] at hu
    cases hj : (zs.take len)[j]? with
    | none => rw [hj] at hu; simp at hu
    | some z =>
      rw [hj] at hu
      simp only [Option.map_some, Option.some.injEq] at hu
      subst hu
      have hj1 := (List.getElem?_eq_some_iff.1 hj).1
      have hjz : j < zs.length := by simp at hj1; omega
      rw [hcell j hjz]
      have : zs[j]? = some z := by rw [List.getElem?_take] at hj; split at hj <;> simp_all
      simp [List.getD, this]

theorem ptCells_get (ps : List Pt) (j : Nat) (u : Value) (h : (ptCells ps)[j]? = some u) : ∃ (i : Nat) (hi : i < ps.length) (r : Nat), r < 3 ∧ j = i * 3 + r ∧ ps[i].cells[r]? = some u := by
  have hj := (List.getElem?_eq_some_iff.1 h).1
  rw [ptCells_length] at hj
  have hi : j / 3 < ps.length := by omega
  refine ⟨j / 3, hi, j % 3, by omega, by omega, ?_⟩
  obtain ⟨h0, h1, h2⟩ := ptCells_at ps (j / 3) hi
  have hr : j % 3 = 0 ∨ j % 3 = 1 ∨ j % 3 = 2 := by omega
  rcases hr with hr | hr | hr
  · rw [show j = j / 3 * 3 by omega, h0] at h; rw [hr]; exact h
  · rw [show j = j / 3 * 3 + 1 by omega, h1] at h; rw [hr]; exact h
  · rw [show j = j / 3 * 3 + 2 by omega, h2] at h; rw [hr]; exact h

theorem pts_of {n : Nat} {c : Value} {y : DataW H × List MemPlace} (h : DataW.trod enc Try.prog W b (fun _ => true) hd n 22 [c] = some y) : ∃ ps : List Pt, Pts W c ps := by
  rcases open_slice Try.underlying22 h with ⟨e, _⟩ | ⟨a, len, cap, m, k, D, Pl, e, _, hl, hm, hmm, _, hi⟩
  · simp only [List.cons.injEq, and_true] at e
    subst e
    exact ⟨[], ⟨rfl, none, 0, rfl, by simp, by omega, fun h => absurd h (by simp)⟩⟩
  · simp only [List.cons.injEq, and_true] at e
    subst e
    have hC : Try.prog.cellsOf 39 = 3 := by kernel_rfl
    rw [hC] at hi
    have hmc : m = cap := by simpa using hmm
    have hex : ∀ i : Fin len, ∃ p : Pt, ∀ r u, p.cells[r]? = some u → W.cell? (a.add (i.1 * 3 + r)) = some u := by
      intro i
      obtain ⟨cs', h1, h2⟩ := hi i.1 (by have := i.2; omega)
      obtain ⟨p, rfl⟩ := pt_cells h2
      obtain ⟨_, _, h3⟩ := World.cells?_some h1
      refine ⟨p, fun r u hu => ?_⟩
      have hr : r < 3 := (List.getElem?_eq_some_iff.1 hu).1
      have := h3 r hr
      rw [hu, Go.Deep.add_add] at this
      exact this
    obtain ⟨F, hF⟩ : ∃ F : Fin len → Pt, ∀ i r u, (F i).cells[r]? = some u → W.cell? (a.add (i.1 * 3 + r)) = some u := ⟨fun i => (hex i).choose, fun i => (hex i).choose_spec⟩
    have hlen : (List.ofFn F).length = len := by simp
    refine ⟨List.ofFn F, ?_⟩
    unfold Pts
    rw [hlen]
    refine reads_of (by omega) hl (by simpa [maxLen] using hm) _ (by rw [ptCells_length, hlen]) (fun j u hu => ?_)
    obtain ⟨i, hil, r, hr, rfl, hu'⟩ := ptCells_get _ j u hu
    rw [List.getElem_ofFn] at hu'
    exact hF ⟨i, by rw [hlen] at hil; exact hil⟩ r u hu'

set_option maxRecDepth 20000 in
theorem open_line {base : Nat} {v : Value} {d : DataW H} {p : List MemPlace} (hval : Value.okWide Try.prog W .any base 25 v) (h : DataW.Trod enc Try.prog W 0 (fun _ => true) true 25 v d p) : ∃ D : DLine, LineAt W v D := by
  obtain ⟨v0, v1, y0, y1, n, rfl, _, _, h0, h1⟩ := open_agg2 Try.underlying25 (by kernel_rfl) (by kernel_rfl) hval h
  obtain ⟨ps, hp⟩ := pts_of h0
  obtain ⟨xs, hx⟩ := ints_of h1
  exact ⟨⟨ps, xs⟩, _, _, rfl, hp, hx⟩
/-- An argument reads behind the call as before it. -/
theorem stays {t : TypeId} {W' : World} {v : Value} {d : DataW H} {ps qs : List MemPlace} (hr : Try.prog.readableRec t = true) (hrow : t < Try.prog.types.size) (h : DataW.Trod enc Try.prog W 0 (fun _ => true) true t v d ps) (hb : Below W.heap.size W W')
    (hlt : ∀ x ∈ qs, x.block < W.heap.size) (hin : ∀ x ∈ ps, x ∈ qs) (sp : Nat → Bool) (hsp : ∀ x ∈ qs, sp x.block = true) : DataW.Trod enc Try.prog W' 0 sp true t v d ps :=
  WideElems.Trod_stays Try.laidOut hr hrow h (fun x hx => hb.same (hlt x (hin x hx))) (fun x hx => hsp x (hin x hx))
end
end Go.Proofs.Ytldcehhhndlhdaa
/- More arguments opened: structs of integers, a list of integers. -/
namespace Go.Proofs.Ytldcehhhndlhdaa
open Go.ChangeShapes Go.WideShapes Go.ChangeAt Go.RowKit Go.Deep Go.Joins
section
variable {H : Type} {enc : TypeId × Value → H} {W : World}
set_option maxRecDepth 20000 in
theorem open_list {base : Nat} {v : Value} {d : DataW H} {p : List MemPlace} (hval : Value.okWide Try.prog W .any base 23 v) (h : DataW.Trod enc Try.prog W 0 (fun _ => true) true 23 v d p) : ∃ xs : List Int, Ints W v xs := by
  obtain ⟨fuel, hf⟩ := h
  obtain ⟨A, l, c, rfl⟩ := okWide_slice Try.underlying23 hval
  exact ints_of hf
end
end Go.Proofs.Ytldcehhhndlhdaa
/- The arguments of TopGated opened; a call that nobody else has a part in only leaves. -/
namespace Go.Proofs.Ytldcehhhndlhdaa
open Go.ChangeShapes Go.WideShapes Go.ChangeAt Go.RowKit Go.Deep Go.Joins

theorem leaving_of_handed {a : Assume} {C : Checked} {os : Os} {f : FuncId} {r : Reach} {Pre : World → Array Value → Prop} {Post : World → Array Value → Value → World → Prop} (h : ReturnsInHanded a C os f r Pre Post) : ReturnsInLeavingWide a C os f r Pre Post := fun enter =>
  ReturnsInOpen.mono (fun m w t ⟨h1, h2, h3⟩ => ⟨h2, ⟨fun g hg => ⟨0, by
    have h4 := List.all_eq_true.1 h1.1 g hg
    show g.status = .finished
    cases h5 : g.status <;> simp_all <;> first | rfl | (exfalso; revert h4; decide) | (revert h4; rw [h5]; intro h4; cases h4)⟩, h1.2⟩, h3⟩) (fun _ x => x) (h enter)
section
variable {H : Type} {enc : TypeId × Value → H} {W : World}
set_option maxRecDepth 20000 in
theorem open_mouth {base : Nat} {v : Value} {d : DataW H} {p : List MemPlace} (hval : Value.okWide Try.prog W .any base 27 v) (h : DataW.Trod enc Try.prog W 0 (fun _ => true) true 27 v d p) : ∃ B : MBox, MBoxAt W v B := by
  obtain ⟨v0, v1, y0, y1, n, rfl, _, _, h0, h1⟩ := open_agg2 Try.underlying27 (by kernel_rfl) (by kernel_rfl) hval h
  obtain ⟨xs, hx⟩ := ints_of h0
  obtain ⟨ys, hy⟩ := ints_of h1
  exact ⟨⟨xs, ys⟩, _, _, rfl, hx, hy⟩
set_option maxRecDepth 20000 in
theorem gated_cells {b n : Nat} {sp : Nat → Bool} {hd : Bool} {cs : List Value} {y : DataW H × List MemPlace} (h : DataW.trod enc Try.prog W b sp hd n 31 cs = some y) : ∃ (c : Value) (xs : List Int) (x1 x2 x3 : Int), cs = [c, I x1, I x2, I x3] ∧ Ints W c xs := by
  obtain ⟨xs, m, _, _, hl, hx, hf⟩ := DataW.trod_struct Try.underlying31 h
  have hl4 : cs.length = 4 := hl.trans (by kernel_rfl)
  match cs, hl4 with
  | [c0, c1, c2, c3], _ =>
    have h0 := hf 0 _ rfl
    have h1 := hf 1 _ rfl
    have h2 := hf 2 _ rfl
    have hxl : xs.length = 3 := hx
    rw [List.getElem?_eq_getElem (show 0 < xs.length by omega)] at h0
    rw [List.getElem?_eq_getElem (show 1 < xs.length by omega)] at h1
    rw [List.getElem?_eq_getElem (show 2 < xs.length by omega)] at h2
    have hc : Try.prog.cellsOf 3 = 1 := by kernel_rfl
    have hc1 : Try.prog.cellsOf 23 = 1 := by kernel_rfl
    have hc2 : Try.prog.cellsOf 29 = 2 := by kernel_rfl
    simp [hc, hc1, hc2] at h0 h1 h2
    obtain ⟨ys, hy⟩ := ints_of h0
    obtain ⟨a, e1⟩ := int_cell h1
    obtain ⟨x, z, e2⟩ := span_cells h2
    simp at e1 e2
    exact ⟨c0, ys, a, x, z, by rw [e1, e2.1, e2.2], hy⟩
set_option maxRecDepth 20000 in
theorem open_gated {base : Nat} {v : Value} {d : DataW H} {p : List MemPlace} (hval : Value.okWide Try.prog W .any base 31 v) (h : DataW.Trod enc Try.prog W 0 (fun _ => true) true 31 v d p) : ∃ (c : Value) (xs : List Int) (x1 x2 x3 : Int), v = .agg #[c, I x1, I x2, I x3] ∧ Ints W c xs := by
  obtain ⟨cs, rfl, hsz⟩ := okWide_struct Try.underlying31 hval
  obtain ⟨fuel, hf⟩ := h
  obtain ⟨c, xs, x1, x2, x3, hcs, hx⟩ := gated_cells hf
  have : cs = #[c, I x1, I x2, I x3] := by
    have h := congrArg List.toArray hcs
    simpa [Value.cells] using h
  exact ⟨c, xs, x1, x2, x3, by rw [this], hx⟩
end
end Go.Proofs.Ytldcehhhndlhdaa
