/- How the arguments of these rows open: a town, a list; what a row's end asks. -/
import Derived.Test.YtldcehhhndlhdaaGreatDoorC11
import Derived.Test.YtldcehhhndlhdaaGreatDoorC8
import Derived.ProofKit
import Derived.Deep.Slices
import Derived.Lib.SmallJoins
import Derived.Below
import Derived.Test.YtldcehhhndlhdaaGreatDoorC20
import Derived.Lib.LaidTab
import Derived.Stop.LaidErr
import Derived.LaidMore
namespace Go.Proofs.YtldcehhhndlhdaaGreatDoor
open Go.ChangeShapes Go.WideShapes Go.ChangeAt Go.RowKit Go.Deep Go.Joins

theorem Tryz.own : ownKnob Tryz.prog.godebug = none := by kernel_rfl
theorem Tryz.laidOut : laidOutB Tryz.prog = true := by kernel_rfl

section
variable {H : Type} {enc : TypeId × Value → H} {P : Program}
/-- The row's last step, where 'Below' is known alone (the guide's lemma). -/
theorem post_of_below {f : Func} {s : ChangeSpec} {apart fresh handsOn again : Bool} {W W' : World} {args : Array Value} {v : Value} {ds gs : List (DataW H)} {before pa pv : List MemPlace}
    (hW : DataW.Whole enc P f.params.toList s.vars apart W args.toList ds gs before)
    (hres : ∀ (b : Nat) (sp : Nat → Bool) (hd : Bool), DataW.TrodAll enc P W' b sp hd f.resultTypes.toList (v.resultList f.resultTypes.size) (s.fn H (ds ++ gs)).results [])
    (hargs : ∀ sp : Nat → Bool, (∀ p ∈ before, sp p.block = true) → DataW.TrodAll enc P W' 0 sp true f.params.toList args.toList (s.fn H (ds ++ gs)).args pa)
    (hvars : ∀ sp : Nat → Bool, (∀ p ∈ before, sp p.block = true) → DataW.TrodVars enc P W' sp s.vars (s.fn H (ds ++ gs)).vars pv)
    (hps : before = pa ++ pv) (hb : Below W.heap.size W W')
    (hok : ∀ (j : Nat) (t : TypeId) (r : Value), f.resultTypes[j]? = some t → (v.resultList f.resultTypes.size)[j]? = some r → Value.okWide P W' .any 0 t r) :
    s.post enc P f apart fresh handsOn again W args v W' := by
  have hlt : ∀ p ∈ before, p.block < W.heap.size := fun p hp => hW.lt p hp
  have hold : ∀ p ∈ before, (fun b => decide (b < W.heap.size)) p.block = true := fun p hp => by simpa using hlt p hp
  refine ⟨ds, gs, before, [], pa, pv, hW, hres _ _ _, hargs _ hold, hvars _ hold, World.keptBut_mono (fun p hp => ⟨hp, ?_⟩) (hb.frame (· ∈ before)), fun _ => ?_⟩
  · rw [hps, List.mem_append] at hp
    exact Or.inr hp
  · obtain ⟨_, _, _, _, _, hz, hn⟩ := hW
    refine ⟨hok, _, _, ([] ++ pa) ++ pv, ⟨[] ++ pa, pv, trodAll_append (hargs _ (fun _ _ => rfl)) (hres _ _ _), hvars _ (fun _ _ => rfl), rfl, ?_, ?_⟩, ?_⟩
    · intro b off hp
      have hin : MemPlace.cell b off ∈ before := by rw [hps]; simpa using hp
      rw [hb.frozen (hlt _ hin)]
      exact hz b off hin
    · intro ha
      have := hn ha
      rw [hps] at this
      simpa using this
    · intro p hp _
      rw [hps]
      simpa using hp
end

abbrev Snd.cells (s : Snd) : List Value := [I s.well, I s.low, I s.high]
abbrev Slp.cells (s : Slp) : List Value := [I s.a, I s.b, I s.low, I s.high]
section
variable {H : Type} {enc : TypeId × Value → H} {W : World} {b : Nat} {sp : Nat → Bool} {hd : Bool}
theorem int_cell {n : Nat} {cs : List Value} {y : DataW H × List MemPlace} (h : DataW.trod enc Tryz.prog W b sp hd n 3 cs = some y) : ∃ z : Int, cs = [I z] := by
  obtain ⟨z, e, _⟩ := DataW.trod_int Tryz.underlying3 h
  exact ⟨z, e⟩
theorem spot_none {w : World} {a : Addr} {v : Value} (h : w.cell? a = some v) : a = ⟨a.block, a.off, none⟩ := by
  obtain ⟨bl, of, s⟩ := a
  cases s with
  | none => rfl
  | some k =>
    unfold World.cell? at h
    split at h <;> simp at h
theorem reads_of {w : World} {A : Addr} {len cap size : Nat} (hsz : 0 < size) (hl : len ≤ cap) (hc : cap ≤ 9223372036854775807) (xs : List Value) (hx : xs.length = len * size)
    (h : ∀ j u, xs[j]? = some u → w.cell? (A.add j) = some u) : Go.Proofs.YtldcehhhndlhdaaGreatDoor.Reads w size (.slice (some A) len cap) len xs := by
  refine ⟨hx, _, _, rfl, hl, hc, fun hn => ?_⟩
  have hp : 0 < xs.length := by rw [hx]; exact Nat.mul_pos hn hsz
  have h0 := h 0 xs[0] (List.getElem?_eq_getElem hp)
  have hA : A.add 0 = A := by simp [Addr.add]
  rw [hA] at h0
  have e := spot_none h0
  refine ⟨A.block, A.off, by rw [← e], fun j u hu => ?_⟩
  rw [← add_plain, ← e]
  exact h j u hu

theorem ints_of {n : Nat} {c : Value} {y : DataW H × List MemPlace} (h : DataW.trod enc Tryz.prog W b sp hd n 22 [c] = some y) : ∃ xs : List Int, Ints W c xs := by
  rcases open_ints Tryz.underlying22 Tryz.underlying3 (by kernel_rfl) h with ⟨e, _⟩ | ⟨a, len, cap, zs, e, _, hl, hm, hz, _, hcell, _⟩
  · simp only [List.cons.injEq, and_true] at e
    subst e
    exact ⟨[], ⟨rfl, none, 0, rfl, by simp, by omega, fun h => absurd h (by simp)⟩⟩
  · simp only [List.cons.injEq, and_true] at e
    subst e
    have hlz : len ≤ zs.length := by rw [hz]; split <;> omega
    have hl1 : (zs.take len).length = len := by simp; omega
    refine ⟨zs.take len, ?_⟩
    unfold Ints
    rw [hl1]
    refine reads_of (by omega) hl (by simpa [maxLen] using hm) _ (by simp; omega) (fun j u hu => ?_)
    rw [List.getElem?_map] at hu
    cases hj : (zs.take len)[j]? with
    | none => rw [hj] at hu; simp at hu
    | some z =>
      rw [hj] at hu
      simp only [Option.map_some, Option.some.injEq] at hu
      subst hu
      have hj1 := (List.getElem?_eq_some_iff.1 hj).1
      have hjz : j < zs.length := by simp at hj1; omega
      rw [hcell j hjz]
      have : zs[j]? = some z := by rw [List.getElem?_take] at hj; split at hj <;> simp_all
      simp [List.getD, this]

theorem sndCells_get (ps : List Snd) (j : Nat) (u : Value) (h : (sndCells ps)[j]? = some u) : ∃ (i : Nat) (hi : i < ps.length) (r : Nat), r < 3 ∧ j = i * 3 + r ∧ ps[i].cells[r]? = some u := by
  have hj := (List.getElem?_eq_some_iff.1 h).1
  rw [sndCells_len] at hj
  have hi : j / 3 < ps.length := by omega
  refine ⟨j / 3, hi, j % 3, by omega, by omega, ?_⟩
  obtain ⟨h0, h1, h2⟩ := sndCells_at ps (j / 3) hi
  have hr : j % 3 = 0 ∨ j % 3 = 1 ∨ j % 3 = 2 := by omega
  rcases hr with hr | hr | hr
  · rw [show j = j / 3 * 3 by omega, h0] at h; rw [hr]; exact h
  · rw [show j = j / 3 * 3 + 1 by omega, h1] at h; rw [hr]; exact h
  · rw [show j = j / 3 * 3 + 2 by omega, h2] at h; rw [hr]; exact h

theorem slpCells_get (ps : List Slp) (j : Nat) (u : Value) (h : (slpCells ps)[j]? = some u) : ∃ (i : Nat) (hi : i < ps.length) (r : Nat), r < 4 ∧ j = i * 4 + r ∧ ps[i].cells[r]? = some u := by
  have hj := (List.getElem?_eq_some_iff.1 h).1
  rw [slpCells_len] at hj
  have hi : j / 4 < ps.length := by omega
  refine ⟨j / 4, hi, j % 4, by omega, by omega, ?_⟩
  obtain ⟨h0, h1, h2, h3⟩ := slpCells_at ps (j / 4) hi
  have hr : j % 4 = 0 ∨ j % 4 = 1 ∨ j % 4 = 2 ∨ j % 4 = 3 := by omega
  rcases hr with hr | hr | hr | hr
  · rw [show j = j / 4 * 4 by omega, h0] at h; rw [hr]; exact h
  · rw [show j = j / 4 * 4 + 1 by omega, h1] at h; rw [hr]; exact h
  · rw [show j = j / 4 * 4 + 2 by omega, h2] at h; rw [hr]; exact h
  · rw [show j = j / 4 * 4 + 3 by omega, h3] at h; rw [hr]; exact h

set_option maxRecDepth 20000 in
theorem open_list {base : Nat} {v : Value} {d : DataW H} {p : List MemPlace} (hval : Value.okWide Tryz.prog W .any base 22 v) (h : DataW.Trod enc Tryz.prog W 0 (fun _ => true) true 22 v d p) : ∃ xs : List Int, Ints W v xs := by
  obtain ⟨fuel, hf⟩ := h
  obtain ⟨A, l, c, rfl⟩ := okWide_slice Tryz.underlying22 hval
  exact ints_of hf
/-- An argument reads behind the call as before it. -/
theorem stays {t : TypeId} {W' : World} {v : Value} {d : DataW H} {ps qs : List MemPlace} (hr : Tryz.prog.readableRec t = true) (hrow : t < Tryz.prog.types.size) (h : DataW.Trod enc Tryz.prog W 0 (fun _ => true) true t v d ps) (hb : Below W.heap.size W W')
    (hlt : ∀ x ∈ qs, x.block < W.heap.size) (hin : ∀ x ∈ ps, x ∈ qs) (sp : Nat → Bool) (hsp : ∀ x ∈ qs, sp x.block = true) : DataW.Trod enc Tryz.prog W' 0 sp true t v d ps :=
  WideElems.Trod_stays Tryz.laidOut hr hrow h (fun x hx => hb.same (hlt x (hin x hx))) (fun x hx => hsp x (hin x hx))
end
end Go.Proofs.YtldcehhhndlhdaaGreatDoor
/- The argument of TopRostered opened: a roster of hours. -/
namespace Go.Proofs.YtldcehhhndlhdaaGreatDoor.Hr
open Go.ChangeShapes Go.WideShapes Go.ChangeAt Go.RowKit Go.Deep Go.Joins

section
variable {H : Type} {enc : TypeId × Value → H} {W : World} {b : Nat} {sp : Nat → Bool} {hd : Bool}
set_option maxRecDepth 20000 in
theorem str_cells {n : Nat} {cs : List Value} {y : DataW H × List MemPlace} (h : DataW.trod enc Tryz.prog W b sp hd n 53 cs = some y) : ∃ s : Str, cs = s.cells := by
  obtain ⟨xs, m, _, _, hl, hx, hf⟩ := DataW.trod_struct Tryz.underlying53 h
  have hl4 : cs.length = 4 := hl.trans (by kernel_rfl)
  match cs, hl4 with
  | [c0, c1, c2, c3], _ =>
    have h0 := hf 0 _ rfl
    have h1 := hf 1 _ rfl
    have h2 := hf 2 _ rfl
    have h3 := hf 3 _ rfl
    have hxl : xs.length = 4 := hx
    rw [List.getElem?_eq_getElem (show 0 < xs.length by omega)] at h0
    rw [List.getElem?_eq_getElem (show 1 < xs.length by omega)] at h1
    rw [List.getElem?_eq_getElem (show 2 < xs.length by omega)] at h2
    rw [List.getElem?_eq_getElem (show 3 < xs.length by omega)] at h3
    obtain ⟨z0, e0⟩ := int_cell h0
    obtain ⟨z1, e1⟩ := int_cell h1
    obtain ⟨z2, e2⟩ := int_cell h2
    obtain ⟨z3, e3⟩ := int_cell h3
    have hc : Tryz.prog.cellsOf 3 = 1 := by kernel_rfl
    simp [hc] at e0 e1 e2 e3
    exact ⟨⟨z0, z1, z2, z3⟩, by rw [e0, e1, e2, e3]; rfl⟩

theorem strCells_get (ps : List Str) (j : Nat) (u : Value) (h : (strCells ps)[j]? = some u) : ∃ (i : Nat) (hi : i < ps.length) (r : Nat), r < 4 ∧ j = i * 4 + r ∧ ps[i].cells[r]? = some u := by
  have hj := (List.getElem?_eq_some_iff.1 h).1
  rw [strCells_length] at hj
  have hi : j / 4 < ps.length := by omega
  refine ⟨j / 4, hi, j % 4, by omega, by omega, ?_⟩
  obtain ⟨h0, h1, h2, h3⟩ := strCells_at ps (j / 4) hi
  have hr : j % 4 = 0 ∨ j % 4 = 1 ∨ j % 4 = 2 ∨ j % 4 = 3 := by omega
  rcases hr with hr | hr | hr | hr
  · rw [show j = j / 4 * 4 by omega, h0] at h; rw [hr]; exact h
  · rw [show j = j / 4 * 4 + 1 by omega, h1] at h; rw [hr]; exact h
  · rw [show j = j / 4 * 4 + 2 by omega, h2] at h; rw [hr]; exact h
  · rw [show j = j / 4 * 4 + 3 by omega, h3] at h; rw [hr]; exact h

theorem strs_of {n : Nat} {c : Value} {y : DataW H × List MemPlace} (h : DataW.trod enc Tryz.prog W b (fun _ => true) hd n 23 [c] = some y) : ∃ ps : List Str, Strs W c ps := by
  rcases open_slice Tryz.underlying23 h with ⟨e, _⟩ | ⟨a, len, cap, m, k, D, Pl, e, _, hl, hm, hmm, _, hi⟩
  · simp only [List.cons.injEq, and_true] at e
    subst e
    exact ⟨[], ⟨rfl, none, 0, rfl, by simp, by omega, fun h => absurd h (by simp)⟩⟩
  · simp only [List.cons.injEq, and_true] at e
    subst e
    have hC : Tryz.prog.cellsOf 53 = 4 := by kernel_rfl
    rw [hC] at hi
    have hmc : m = cap := by simpa using hmm
    have hex : ∀ i : Fin len, ∃ p : Str, ∀ r u, p.cells[r]? = some u → W.cell? (a.add (i.1 * 4 + r)) = some u := by
      intro i
      obtain ⟨cs', h1, h2⟩ := hi i.1 (by have := i.2; omega)
      obtain ⟨p, rfl⟩ := str_cells h2
      obtain ⟨_, _, h3⟩ := World.cells?_some h1
      refine ⟨p, fun r u hu => ?_⟩
      have hr : r < 4 := (List.getElem?_eq_some_iff.1 hu).1
      have := h3 r hr
      rw [hu, Go.Deep.add_add] at this
      exact this
    obtain ⟨F, hF⟩ : ∃ F : Fin len → Str, ∀ i r u, (F i).cells[r]? = some u → W.cell? (a.add (i.1 * 4 + r)) = some u := ⟨fun i => (hex i).choose, fun i => (hex i).choose_spec⟩
    have hlen : (List.ofFn F).length = len := by simp
    refine ⟨List.ofFn F, ?_⟩
    unfold Strs
    rw [hlen]
    refine reads_of (by omega) hl (by simpa [maxLen] using hm) _ (by rw [strCells_length, hlen]) (fun j u hu => ?_)
    obtain ⟨i, hil, r, hr, rfl, hu'⟩ := strCells_get _ j u hu
    rw [List.getElem_ofFn] at hu'
    exact hF ⟨i, by rw [hlen] at hil; exact hil⟩ r u hu'

set_option maxRecDepth 20000 in
theorem open_ros {base : Nat} {v : Value} {d : DataW H} {p : List MemPlace} (hval : Value.okWide Tryz.prog W .any base 25 v) (h : DataW.Trod enc Tryz.prog W 0 (fun _ => true) true 25 v d p) : ∃ r : Ros, RosAt W v r := by
  obtain ⟨v0, v1, y0, y1, n, rfl, _, _, h0, h1⟩ := open_agg2 Tryz.underlying25 (by kernel_rfl) (by kernel_rfl) hval h
  obtain ⟨xs, hx⟩ := ints_of h0
  obtain ⟨ss, hs⟩ := strs_of h1
  exact ⟨⟨xs, ss⟩, _, _, rfl, hx, hs⟩
end
end Go.Proofs.YtldcehhhndlhdaaGreatDoor.Hr
