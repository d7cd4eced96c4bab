/- How the arguments of these rows open: a town, a list; what a row's end asks. -/
import Derived.Test.YtldcehhhndlhdaaDoorC8
import Derived.Test.YtldcehhhndlhdaaDoorC5
import Derived.ProofKit
import Derived.Deep.Slices
import Derived.Lib.SmallJoins
import Derived.Below
import Derived.Test.YtldcehhhndlhdaaDoorC13
import Derived.Lib.LaidTab
import Derived.Stop.LaidErr
import Derived.LaidMore
namespace Go.Proofs.YtldcehhhndlhdaaDoor
open Go.ChangeShapes Go.WideShapes Go.ChangeAt Go.RowKit Go.Deep Go.Joins

theorem Tryd.own : ownKnob Tryd.prog.godebug = none := by kernel_rfl
theorem Tryd.laidOut : laidOutB Tryd.prog = true := by kernel_rfl

section
variable {H : Type} {enc : TypeId × Value → H} {P : Program}
/-- The row's last step, where 'Below' is known alone (the guide's lemma). -/
theorem post_of_below {f : Func} {s : ChangeSpec} {apart fresh handsOn again : Bool} {W W' : World} {args : Array Value} {v : Value} {ds gs : List (DataW H)} {before pa pv : List MemPlace}
    (hW : DataW.Whole enc P f.params.toList s.vars apart W args.toList ds gs before)
    (hres : ∀ (b : Nat) (sp : Nat → Bool) (hd : Bool), DataW.TrodAll enc P W' b sp hd f.resultTypes.toList (v.resultList f.resultTypes.size) (s.fn H (ds ++ gs)).results [])
    (hargs : ∀ sp : Nat → Bool, (∀ p ∈ before, sp p.block = true) → DataW.TrodAll enc P W' 0 sp true f.params.toList args.toList (s.fn H (ds ++ gs)).args pa)
    (hvars : ∀ sp : Nat → Bool, (∀ p ∈ before, sp p.block = true) → DataW.TrodVars enc P W' sp s.vars (s.fn H (ds ++ gs)).vars pv)
    (hps : before = pa ++ pv) (hb : Below W.heap.size W W')
    (hok : ∀ (j : Nat) (t : TypeId) (r : Value), f.resultTypes[j]? = some t → (v.resultList f.resultTypes.size)[j]? = some r → Value.okWide P W' .any 0 t r) :
    s.post enc P f apart fresh handsOn again W args v W' := by
  have hlt : ∀ p ∈ before, p.block < W.heap.size := fun p hp => hW.lt p hp
  have hold : ∀ p ∈ before, (fun b => decide (b < W.heap.size)) p.block = true := fun p hp => by simpa using hlt p hp
  refine ⟨ds, gs, before, [], pa, pv, hW, hres _ _ _, hargs _ hold, hvars _ hold, World.keptBut_mono (fun p hp => ⟨hp, ?_⟩) (hb.frame (· ∈ before)), fun _ => ?_⟩
  · rw [hps, List.mem_append] at hp
    exact Or.inr hp
  · obtain ⟨_, _, _, _, _, hz, hn⟩ := hW
    refine ⟨hok, _, _, ([] ++ pa) ++ pv, ⟨[] ++ pa, pv, trodAll_append (hargs _ (fun _ _ => rfl)) (hres _ _ _), hvars _ (fun _ _ => rfl), rfl, ?_, ?_⟩, ?_⟩
    · intro b off hp
      have hin : MemPlace.cell b off ∈ before := by rw [hps]; simpa using hp
      rw [hb.frozen (hlt _ hin)]
      exact hz b off hin
    · intro ha
      have := hn ha
      rw [hps] at this
      simpa using this
    · intro p hp _
      rw [hps]
      simpa using hp
end

abbrev Snd.cells (s : Snd) : List Value := [I s.well, I s.low, I s.high]
abbrev Slp.cells (s : Slp) : List Value := [I s.a, I s.b, I s.low, I s.high]
section
variable {H : Type} {enc : TypeId × Value → H} {W : World} {b : Nat} {sp : Nat → Bool} {hd : Bool}
theorem int_cell {n : Nat} {cs : List Value} {y : DataW H × List MemPlace} (h : DataW.trod enc Tryd.prog W b sp hd n 3 cs = some y) : ∃ z : Int, cs = [I z] := by
  obtain ⟨z, e, _⟩ := DataW.trod_int Tryd.underlying3 h
  exact ⟨z, e⟩
set_option maxRecDepth 20000 in
theorem snd_cells {n : Nat} {cs : List Value} {y : DataW H × List MemPlace} (h : DataW.trod enc Tryd.prog W b sp hd n 31 cs = some y) : ∃ s : Snd, cs = s.cells := by
  obtain ⟨xs, m, _, _, hl, hx, hf⟩ := DataW.trod_struct Tryd.underlying31 h
  have hl3 : cs.length = 3 := hl.trans (by kernel_rfl)
  match cs, hl3 with
  | [c0, c1, c2], _ =>
    have h0 := hf 0 _ rfl
    have h1 := hf 1 _ rfl
    have h2 := hf 2 _ rfl
    have hxl : xs.length = 3 := hx
    rw [List.getElem?_eq_getElem (show 0 < xs.length by omega)] at h0
    rw [List.getElem?_eq_getElem (show 1 < xs.length by omega)] at h1
    rw [List.getElem?_eq_getElem (show 2 < xs.length by omega)] at h2
    obtain ⟨z0, e0⟩ := int_cell h0
    obtain ⟨z1, e1⟩ := int_cell h1
    obtain ⟨z2, e2⟩ := int_cell h2
    have hc : Tryd.prog.cellsOf 3 = 1 := by kernel_rfl
    simp [hc] at e0 e1 e2
    exact ⟨⟨z0, z1, z2⟩, by rw [e0, e1, e2]⟩
set_option maxRecDepth 20000 in
theorem slp_cells {n : Nat} {cs : List Value} {y : DataW H × List MemPlace} (h : DataW.trod enc Tryd.prog W b sp hd n 77 cs = some y) : ∃ s : Slp, cs = s.cells := by
  obtain ⟨xs, m, _, _, hl, hx, hf⟩ := DataW.trod_struct Tryd.underlying77 h
  have hl4 : cs.length = 4 := hl.trans (by kernel_rfl)
  match cs, hl4 with
  | [c0, c1, c2, c3], _ =>
    have h0 := hf 0 _ rfl
    have h1 := hf 1 _ rfl
    have h2 := hf 2 _ rfl
    have h3 := hf 3 _ rfl
    have hxl : xs.length = 4 := hx
    rw [List.getElem?_eq_getElem (show 0 < xs.length by omega)] at h0
    rw [List.getElem?_eq_getElem (show 1 < xs.length by omega)] at h1
    rw [List.getElem?_eq_getElem (show 2 < xs.length by omega)] at h2
    rw [List.getElem?_eq_getElem (show 3 < xs.length by omega)] at h3
    obtain ⟨z0, e0⟩ := int_cell h0
    obtain ⟨z1, e1⟩ := int_cell h1
    obtain ⟨z2, e2⟩ := int_cell h2
    obtain ⟨z3, e3⟩ := int_cell h3
    have hc : Tryd.prog.cellsOf 3 = 1 := by kernel_rfl
    simp [hc] at e0 e1 e2 e3
    exact ⟨⟨z0, z1, z2, z3⟩, by rw [e0, e1, e2, e3]⟩

theorem spot_none {w : World} {a : Addr} {v : Value} (h : w.cell? a = some v) : a = ⟨a.block, a.off, none⟩ := by
  obtain ⟨bl, of, s⟩ := a
  cases s with
  | none => rfl
  | some k =>
    unfold World.cell? at h
    split at h <;> simp at h
theorem reads_of {w : World} {A : Addr} {len cap size : Nat} (hsz : 0 < size) (hl : len ≤ cap) (hc : cap ≤ 9223372036854775807) (xs : List Value) (hx : xs.length = len * size)
    (h : ∀ j u, xs[j]? = some u → w.cell? (A.add j) = some u) : Go.Proofs.YtldcehhhndlhdaaDoor.Reads w size (.slice (some A) len cap) len xs := by
  refine ⟨hx, _, _, rfl, hl, hc, fun hn => ?_⟩
  have hp : 0 < xs.length := by rw [hx]; exact Nat.mul_pos hn hsz
  have h0 := h 0 xs[0] (List.getElem?_eq_getElem hp)
  have hA : A.add 0 = A := by simp [Addr.add]
  rw [hA] at h0
  have e := spot_none h0
  refine ⟨A.block, A.off, by rw [← e], fun j u hu => ?_⟩
  rw [← add_plain, ← e]
  exact h j u hu

theorem ints_of {n : Nat} {c : Value} {y : DataW H × List MemPlace} (h : DataW.trod enc Tryd.prog W b sp hd n 53 [c] = some y) : ∃ xs : List Int, Ints W c xs := by
  rcases open_ints Tryd.underlying53 Tryd.underlying3 (by kernel_rfl) h with ⟨e, _⟩ | ⟨a, len, cap, zs, e, _, hl, hm, hz, _, hcell, _⟩
  · simp only [List.cons.injEq, and_true] at e
    subst e
    exact ⟨[], ⟨rfl, none, 0, rfl, by simp, by omega, fun h => absurd h (by simp)⟩⟩
  · simp only [List.cons.injEq, and_true] at e
    subst e
    have hlz : len ≤ zs.length := by rw [hz]; split <;> omega
    have hl1 : (zs.take len).length = len := by simp; omega
    refine ⟨zs.take len, ?_⟩
    unfold Ints
    rw [hl1]
    refine reads_of (by omega) hl (by simpa [maxLen] using hm) _ (by simp; omega) (fun j u hu => ?_)
    rw [List.getElem?_map] at hu
    cases hj : (zs.take len)[j]? with
    | none => rw [hj] at hu; simp at hu
    | some z =>
      rw [hj] at hu
      simp only [Option.map_some, Option.some.injEq] at hu
      subst hu
      have hj1 := (List.getElem?_eq_some_iff.1 hj).1
      have hjz : j < zs.length := by simp at hj1; omega
      rw [hcell j hjz]
      have : zs[j]? = some z := by rw [List.getElem?_take] at hj; split at hj <;> simp_all
      simp [List.getD, this]

theorem sndCells_get (ps : List Snd) (j : Nat) (u : Value) (h : (sndCells ps)[j]? = some u) : ∃ (i : Nat) (hi : i < ps.length) (r : Nat), r < 3 ∧ j = i * 3 + r ∧ ps[i].cells[r]? = some u := by
  have hj := (List.getElem?_eq_some_iff.1 h).1
  rw [sndCells_len] at hj
  have hi : j / 3 < ps.length := by omega
  refine ⟨j / 3, hi, j % 3, by omega, by omega, ?_⟩
  obtain ⟨h0, h1, h2⟩ := sndCells_at ps (j / 3) hi
  have hr : j % 3 = 0 ∨ j % 3 = 1 ∨ j % 3 = 2 := by omega
  rcases hr with hr | hr | hr
  · rw [show j = j / 3 * 3 by omega, h0] at h; rw [hr]; exact h
  · rw [show j = j / 3 * 3 + 1 by omega, h1] at h; rw [hr]; exact h
  · rw [show j = j / 3 * 3 + 2 by omega, h2] at h; rw [hr]; exact h

theorem slpCells_get (ps : List Slp) (j : Nat) (u : Value) (h : (slpCells ps)[j]? = some u) : ∃ (i : Nat) (hi : i < ps.length) (r : Nat), r < 4 ∧ j = i * 4 + r ∧ ps[i].cells[r]? = some u := by
  have hj := (List.getElem?_eq_some_iff.1 h).1
  rw [slpCells_len] at hj
  have hi : j / 4 < ps.length := by omega
  refine ⟨j / 4, hi, j % 4, by omega, by omega, ?_⟩
  obtain ⟨h0, h1, h2, h3⟩ := slpCells_at ps (j / 4) hi
  have hr : j % 4 = 0 ∨ j % 4 = 1 ∨ j % 4 = 2 ∨ j % 4 = 3 := by omega
  rcases hr with hr | hr | hr | hr
  · rw [show j = j / 4 * 4 by omega, h0] at h; rw [hr]; exact h
  · rw [show j = j / 4 * 4 + 1 by omega, h1] at h; rw [hr]; exact h
  · rw [show j = j / 4 * 4 + 2 by omega, h2] at h; rw [hr]; exact h
  · rw [show j = j / 4 * 4 + 3 by omega, h3] at h; rw [hr]; exact h

theorem snd_of {n : Nat} {c : Value} {y : DataW H × List MemPlace} (h : DataW.trod enc Tryd.prog W b (fun _ => true) hd n 22 [c] = some y) : ∃ ps : List Snd, Snds W c ps := by
  rcases open_slice Tryd.underlying22 h with ⟨e, _⟩ | ⟨a, len, cap, m, k, D, Pl, e, _, hl, hm, hmm, _, hi⟩
  · simp only [List.cons.injEq, and_true] at e
    subst e
    exact ⟨[], ⟨rfl, none, 0, rfl, by simp, by omega, fun h => absurd h (by simp)⟩⟩
  · simp only [List.cons.injEq, and_true] at e
    subst e
    have hC : Tryd.prog.cellsOf 31 = 3 := by kernel_rfl
    rw [hC] at hi
    have hmc : m = cap := by simpa using hmm
    have hex : ∀ i : Fin len, ∃ p : Snd, ∀ r u, p.cells[r]? = some u → W.cell? (a.add (i.1 * 3 + r)) = some u := by
      intro i
      obtain ⟨cs', h1, h2⟩ := hi i.1 (by have := i.2; omega)
      obtain ⟨p, rfl⟩ := snd_cells h2
      obtain ⟨_, _, h3⟩ := World.cells?_some h1
      refine ⟨p, fun r u hu => ?_⟩
      have hr : r < 3 := (List.getElem?_eq_some_iff.1 hu).1
      have := h3 r hr
      rw [hu, Go.Deep.add_add] at this
      exact this
    obtain ⟨F, hF⟩ : ∃ F : Fin len → Snd, ∀ i r u, (F i).cells[r]? = some u → W.cell? (a.add (i.1 * 3 + r)) = some u := ⟨fun i => (hex i).choose, fun i => (hex i).choose_spec⟩
    have hlen : (List.ofFn F).length = len := by simp
    refine ⟨List.ofFn F, ?_⟩
    unfold Snds
    rw [hlen]
    refine reads_of (by omega) hl (by simpa [maxLen] using hm) _ (by rw [sndCells_len, hlen]) (fun j u hu => ?_)
    obtain ⟨i, hil, r, hr, rfl, hu'⟩ := sndCells_get _ j u hu
    rw [List.getElem_ofFn] at hu'
    exact hF ⟨i, by rw [hlen] at hil; exact hil⟩ r u hu'

theorem slp_of {n : Nat} {c : Value} {y : DataW H × List MemPlace} (h : DataW.trod enc Tryd.prog W b (fun _ => true) hd n 23 [c] = some y) : ∃ ps : List Slp, Slps W c ps := by
  rcases open_slice Tryd.underlying23 h with ⟨e, _⟩ | ⟨a, len, cap, m, k, D, Pl, e, _, hl, hm, hmm, _, hi⟩
  · simp only [List.cons.injEq, and_true] at e
    subst e
    exact ⟨[], ⟨rfl, none, 0, rfl, by simp, by omega, fun h => absurd h (by simp)⟩⟩
  · simp only [List.cons.injEq, and_true] at e
    subst e
    have hC : Tryd.prog.cellsOf 77 = 4 := by kernel_rfl
    rw [hC] at hi
    have hmc : m = cap := by simpa using hmm
    have hex : ∀ i : Fin len, ∃ p : Slp, ∀ r u, p.cells[r]? = some u → W.cell? (a.add (i.1 * 4 + r)) = some u := by
      intro i
      obtain ⟨cs', h1, h2⟩ := hi i.1 (by have := i.2; omega)
      obtain ⟨p, rfl⟩ := slp_cells h2
      obtain ⟨_, _, h3⟩ := World.cells?_some h1
      refine ⟨p, fun r u hu => ?_⟩
      have hr : r < 4 := (List.getElem?_eq_some_iff.1 hu).1
      have := h3 r hr
      rw [hu, Go.Deep.add_add] at this
      exact this
    obtain ⟨F, hF⟩ : ∃ F : Fin len → Slp, ∀ i r u, (F i).cells[r]? = some u → W.cell? (a.add (i.1 * 4 + r)) = some u := ⟨fun i => (hex i).choose, fun i => (hex i).choose_spec⟩
    have hlen : (List.ofFn F).length = len := by simp
    refine ⟨List.ofFn F, ?_⟩
    unfold Slps
    rw [hlen]
    refine reads_of (by omega) hl (by simpa [maxLen] using hm) _ (by rw [slpCells_len, hlen]) (fun j u hu => ?_)
    obtain ⟨i, hil, r, hr, rfl, hu'⟩ := slpCells_get _ j u hu
    rw [List.getElem_ofFn] at hu'
    exact hF ⟨i, by rw [hlen] at hil; exact hil⟩ r u hu'

set_option maxRecDepth 20000 in
theorem open_twn {base : Nat} {v : Value} {d : DataW H} {p : List MemPlace} (hval : Value.okWide Tryd.prog W .any base 25 v) (h : DataW.Trod enc Tryd.prog W 0 (fun _ => true) true 25 v d p) : ∃ t : Twn, TwnAt W v t := by
  obtain ⟨v0, v1, v2, y0, y1, y2, n, rfl, _, _, h0, h1, h2⟩ := open_agg3 Tryd.underlying25 (by kernel_rfl) (by kernel_rfl) hval h
  obtain ⟨z, e0⟩ := int_cell h0
  simp only [List.cons.injEq, and_true] at e0
  obtain ⟨ss, hs⟩ := snd_of h1
  obtain ⟨ps, hp⟩ := slp_of h2
  exact ⟨⟨z, ss, ps⟩, _, _, by rw [e0], hs, hp⟩
set_option maxRecDepth 20000 in
theorem open_list {base : Nat} {v : Value} {d : DataW H} {p : List MemPlace} (hval : Value.okWide Tryd.prog W .any base 53 v) (h : DataW.Trod enc Tryd.prog W 0 (fun _ => true) true 53 v d p) : ∃ xs : List Int, Ints W v xs := by
  obtain ⟨fuel, hf⟩ := h
  obtain ⟨A, l, c, rfl⟩ := okWide_slice Tryd.underlying53 hval
  exact ints_of hf
/-- An argument reads behind the call as before it. -/
theorem stays {t : TypeId} {W' : World} {v : Value} {d : DataW H} {ps qs : List MemPlace} (hr : Tryd.prog.readableRec t = true) (hrow : t < Tryd.prog.types.size) (h : DataW.Trod enc Tryd.prog W 0 (fun _ => true) true t v d ps) (hb : Below W.heap.size W W')
    (hlt : ∀ x ∈ qs, x.block < W.heap.size) (hin : ∀ x ∈ ps, x ∈ qs) (sp : Nat → Bool) (hsp : ∀ x ∈ qs, sp x.block = true) : DataW.Trod enc Tryd.prog W' 0 sp true t v d ps :=
  WideElems.Trod_stays Tryd.laidOut hr hrow h (fun x hx => hb.same (hlt x (hin x hx))) (fun x hx => hsp x (hin x hx))
end
end Go.Proofs.YtldcehhhndlhdaaDoor
/- The arguments of TopDrawn opened: a town of buckets, a Drawn. -/
namespace Go.Proofs.YtldcehhhndlhdaaDoor
open Go.ChangeShapes Go.WideShapes Go.ChangeAt Go.RowKit Go.Deep Go.Joins

section
variable {H : Type} {enc : TypeId × Value → H} {W : World} {b : Nat} {sp : Nat → Bool} {hd : Bool}
set_option maxRecDepth 20000 in
theorem way_cells {n : Nat} {cs : List Value} {y : DataW H × List MemPlace} (h : DataW.trod enc Tryd.prog W b sp hd n 102 cs = some y) : ∃ s : Sp, cs = [I s.low, I s.high] := by
  obtain ⟨xs, m, _, _, hl, hx, hf⟩ := DataW.trod_struct Tryd.underlying102 h
  have hl2 : cs.length = 2 := hl.trans (by kernel_rfl)
  match cs, hl2 with
  | [c0, c1], _ =>
    have h0 := hf 0 _ rfl
    have h1 := hf 1 _ rfl
    have hxl : xs.length = 2 := hx
    rw [List.getElem?_eq_getElem (show 0 < xs.length by omega)] at h0
    rw [List.getElem?_eq_getElem (show 1 < xs.length by omega)] at h1
    obtain ⟨z0, e0⟩ := int_cell h0
    obtain ⟨z1, e1⟩ := int_cell h1
    have hc : Tryd.prog.cellsOf 3 = 1 := by kernel_rfl
    simp [hc] at e0 e1
    exact ⟨⟨z0, z1⟩, by rw [e0, e1]⟩
theorem spCells_pick (ps : List Sp) (j : Nat) (u : Value) (h : (spCells ps)[j]? = some u) : ∃ (i : Nat) (hi : i < ps.length) (r : Nat), r < 2 ∧ j = i * 2 + r ∧ [I ps[i].low, I ps[i].high][r]? = some u := by
  have hj := (List.getElem?_eq_some_iff.1 h).1
  rw [spCells_len] at hj
  have hi : j / 2 < ps.length := by omega
  refine ⟨j / 2, hi, j % 2, by omega, by omega, ?_⟩
  obtain ⟨h0, h1⟩ := spCells_at ps (j / 2) hi
  have hr : j % 2 = 0 ∨ j % 2 = 1 := by omega
  rcases hr with hr | hr
  · rw [show j = j / 2 * 2 by omega, h0] at h; rw [hr]; exact h
  · rw [show j = j / 2 * 2 + 1 by omega, h1] at h; rw [hr]; exact h
theorem way_of {n : Nat} {c : Value} {y : DataW H × List MemPlace} (h : DataW.trod enc Tryd.prog W b (fun _ => true) hd n 60 [c] = some y) : ∃ ps : List Sp, Sps W c ps := by
  rcases open_slice Tryd.underlying60 h with ⟨e, _⟩ | ⟨a, len, cap, m, k, D, Pl, e, _, hl, hm, hmm, _, hi⟩
  · simp only [List.cons.injEq, and_true] at e
    subst e
    exact ⟨[], ⟨rfl, none, 0, rfl, by simp, by omega, fun h => absurd h (by simp)⟩⟩
  · simp only [List.cons.injEq, and_true] at e
    subst e
    have hC : Tryd.prog.cellsOf 102 = 2 := by kernel_rfl
    rw [hC] at hi
    have hmc : m = cap := by simpa using hmm
    have hex : ∀ i : Fin len, ∃ p : Sp, ∀ r u, [I p.low, I p.high][r]? = some u → W.cell? (a.add (i.1 * 2 + r)) = some u := by
      intro i
      obtain ⟨cs', h1, h2⟩ := hi i.1 (by have := i.2; omega)
      obtain ⟨p, rfl⟩ := way_cells h2
      obtain ⟨_, _, h3⟩ := World.cells?_some h1
      refine ⟨p, fun r u hu => ?_⟩
      have hr : r < 2 := (List.getElem?_eq_some_iff.1 hu).1
      have := h3 r hr
      rw [hu, Go.Deep.add_add] at this
      exact this
    obtain ⟨F, hF⟩ : ∃ F : Fin len → Sp, ∀ i r u, [I (F i).low, I (F i).high][r]? = some u → W.cell? (a.add (i.1 * 2 + r)) = some u := ⟨fun i => (hex i).choose, fun i => (hex i).choose_spec⟩
    have hlen : (List.ofFn F).length = len := by simp
    refine ⟨List.ofFn F, ?_⟩
    unfold Sps
    rw [hlen]
    refine reads_of (by omega) hl (by simpa [maxLen] using hm) _ (by rw [spCells_len, hlen]) (fun j u hu => ?_)
    obtain ⟨i, hil, r, hr, rfl, hu'⟩ := spCells_pick _ j u hu
    rw [List.getElem_ofFn] at hu'
    exact hF ⟨i, by rw [hlen] at hil; exact hil⟩ r u hu'
set_option maxRecDepth 20000 in
theorem open_btown {base : Nat} {v : Value} {d : DataW H} {p : List MemPlace} (hval : Value.okWide Tryd.prog W .any base 62 v) (h : DataW.Trod enc Tryd.prog W 0 (fun _ => true) true 62 v d p) : ∃ t : BTown, BAt W v t := by
  obtain ⟨v0, v1, v2, y0, y1, y2, n, rfl, _, _, h0, h1, h2⟩ := open_agg3 Tryd.underlying62 (by kernel_rfl) (by kernel_rfl) hval h
  obtain ⟨hs, h0⟩ := ints_of h0
  obtain ⟨ws, h1⟩ := ints_of h1
  obtain ⟨ys, h2⟩ := way_of h2
  exact ⟨⟨hs, ws, ys⟩, _, _, _, rfl, h0, h1, h2⟩
set_option maxRecDepth 20000 in
theorem drawn_cells {n : Nat} {cs : List Value} {y : DataW H × List MemPlace} (h : DataW.trod enc Tryd.prog W b (fun _ => true) hd n 64 cs = some y) : ∃ (c : Value) (xs : List Int) (f : Int) (s : Snd), cs = [c, I f, I s.well, I s.low, I s.high] ∧ Ints W c xs := by
  obtain ⟨xs, m, _, _, hl, hx, hf⟩ := DataW.trod_struct Tryd.underlying64 h
  have hl5 : cs.length = 5 := hl.trans (by kernel_rfl)
  match cs, hl5 with
  | [c0, c1, c2, c3, c4], _ =>
    have h0 := hf 0 _ rfl
    have h1 := hf 1 _ rfl
    have h2 := hf 2 _ rfl
    have hxl : xs.length = 3 := hx
    rw [List.getElem?_eq_getElem (show 0 < xs.length by omega)] at h0
    rw [List.getElem?_eq_getElem (show 1 < xs.length by omega)] at h1
    rw [List.getElem?_eq_getElem (show 2 < xs.length by omega)] at h2
    have hc : Tryd.prog.cellsOf 3 = 1 := by kernel_rfl
    have hcs : Tryd.prog.cellsOf 53 = 1 := by kernel_rfl
    have hc3 : Tryd.prog.cellsOf 31 = 3 := by kernel_rfl
    simp [hc, hcs, hc3] at h0 h1 h2
    obtain ⟨l, e0⟩ := ints_of h0
    obtain ⟨z1, e1⟩ := int_cell h1
    obtain ⟨s, e2⟩ := snd_cells h2
    simp at e1 e2
    exact ⟨c0, l, z1, s, by rw [e1, e2.1, e2.2.1, e2.2.2], e0⟩
set_option maxRecDepth 20000 in
theorem open_drawn {base : Nat} {v : Value} {d : DataW H} {p : List MemPlace} (hval : Value.okWide Tryd.prog W .any base 64 v) (h : DataW.Trod enc Tryd.prog W 0 (fun _ => true) true 64 v d p) : ∃ (c : Value) (xs : List Int) (f : Int) (s : Snd), v = .agg #[c, I f, I s.well, I s.low, I s.high] ∧ Ints W c xs := by
  obtain ⟨cs, rfl, hsz⟩ := okWide_struct Tryd.underlying64 hval
  obtain ⟨fuel, hf⟩ := h
  obtain ⟨c, l, f, s, hcs, hl⟩ := drawn_cells hf
  have : cs = #[c, I f, I s.well, I s.low, I s.high] := by
    have h := congrArg List.toArray hcs
    simpa [Value.cells] using h
  exact ⟨c, l, f, s, by rw [this], hl⟩
end
end Go.Proofs.YtldcehhhndlhdaaDoor
