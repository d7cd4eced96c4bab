/- Towns of quarrels in memory; the small words of both. -/
import Derived.Test.YtldcehhhndlhdaaDoorC7
import Derived.RangeFuncNested
import Derived.RangeFuncBound
import Derived.RangeFuncCalls
import Derived.RangeFuncLeaves
import Derived.Test.YtldcehhhndlhdaaDoorRows
namespace Go.Proofs.YtldcehhhndlhdaaDoor
open Go.RowKit Go.Sort

/-- A fact: from which well how many buckets, which one fell, between how many feet. -/
structure QFact where
  fr : Int
  many : Int
  to : Int
  low : Int
  high : Int
  deriving DecidableEq, Inhabited
structure QTown where
  wells : Int
  wds : List (List (List Int))
  fcs : List QFact
def QFact.cells (f : QFact) : List Value := [I f.fr, I f.many, I f.to, I f.low, I f.high]
def QFact.val (f : QFact) : Value := .agg #[I f.fr, I f.many, I f.to, I f.low, I f.high]
def fctCells (l : List QFact) : List Value := l.flatMap QFact.cells
theorem fctCells_len (l : List QFact) : (fctCells l).length = l.length * 5 := by
  induction l with
  | nil => rfl
  | cons p l ih => simp [fctCells, QFact.cells] at ih ⊢; omega
theorem fctCells_at : ∀ (l : List QFact) (k : Nat) (h : k < l.length), (fctCells l)[k * 5]? = some (I l[k].fr) ∧ (fctCells l)[k * 5 + 1]? = some (I l[k].many) ∧ (fctCells l)[k * 5 + 2]? = some (I l[k].to) ∧ (fctCells l)[k * 5 + 3]? = some (I l[k].low) ∧ (fctCells l)[k * 5 + 4]? = some (I l[k].high)
  | p :: l, 0, _ => ⟨rfl, rfl, rfl, rfl, rfl⟩
  | p :: l, k + 1, h => by
    have := fctCells_at l k (by simpa using h)
    rw [show (k + 1) * 5 = k * 5 + 5 by omega]
    exact this
/-- A list of lists of numbers; a list of those. -/
def LL (w : World) (v : Value) (ls : List (List Int)) : Prop := ∃ vs : List Value, vs.length = ls.length ∧ Reads w 1 v ls.length vs ∧ ∀ (i : Nat) (u : Value) (l : List Int), vs[i]? = some u → ls[i]? = some l → Ints w u l
def LW (w : World) (v : Value) (ws : List (List (List Int))) : Prop := ∃ vs : List Value, vs.length = ws.length ∧ Reads w 1 v ws.length vs ∧ ∀ (i : Nat) (u : Value) (l : List (List Int)), vs[i]? = some u → ws[i]? = some l → LL w u l
def Fcts (w : World) (v : Value) (fs : List QFact) : Prop := Reads w 5 v fs.length (fctCells fs)
theorem LL.below {w w' : World} {v : Value} {ls : List (List Int)} (h : LL w v ls) (hb : Below w.heap.size w w') : LL w' v ls := by
  obtain ⟨vs, h1, h2, h3⟩ := h
  exact ⟨vs, h1, h2.below hb, fun i u l hu hl => (h3 i u l hu hl).below hb⟩
theorem LW.below {w w' : World} {v : Value} {ls : List (List (List Int))} (h : LW w v ls) (hb : Below w.heap.size w w') : LW w' v ls := by
  obtain ⟨vs, h1, h2, h3⟩ := h
  exact ⟨vs, h1, h2.below hb, fun i u l hu hl => (h3 i u l hu hl).below hb⟩
theorem Fcts.below {w w' : World} {v : Value} {ls : List QFact} (h : Fcts w v ls) (hb : Below w.heap.size w w') : Fcts w' v ls := Reads.below h hb
/-- What such a list gives: the slice's form, and each element. -/
theorem LL.open_ {w : World} {v : Value} {ls : List (List Int)} (h : LL w v ls) : ∃ A c, v = .slice A ls.length c ∧ ls.length ≤ c ∧ c ≤ 9223372036854775807 ∧ (0 < ls.length → ∃ b o, A = some ⟨b, o, none⟩ ∧ b < w.heap.size ∧ ∀ j (hj : j < ls.length), ∃ u, w.cell? ⟨b, o + j, none⟩ = some u ∧ Ints w u ls[j]) := by
  obtain ⟨vs, h0, ⟨h1, A, c, h2, h3, h4, h5⟩, h6⟩ := h
  refine ⟨A, c, h2, h3, h4, fun hn => ?_⟩
  obtain ⟨b, o, h7, h8⟩ := h5 hn
  have hc : ∀ j (hj : j < ls.length), ∃ u, w.cell? ⟨b, o + j, none⟩ = some u ∧ Ints w u ls[j] := fun j hj =>
    ⟨vs[j], h8 j _ (List.getElem?_eq_getElem (by omega)), h6 j _ _ (List.getElem?_eq_getElem (by omega)) (List.getElem?_eq_getElem hj)⟩
  obtain ⟨u, h9, _⟩ := hc 0 hn
  exact ⟨b, o, h7, World.block_lt_of_cell? w _ h9, hc⟩
theorem LW.open_ {w : World} {v : Value} {ls : List (List (List Int))} (h : LW w v ls) : ∃ A c, v = .slice A ls.length c ∧ ls.length ≤ c ∧ c ≤ 9223372036854775807 ∧ (0 < ls.length → ∃ b o, A = some ⟨b, o, none⟩ ∧ b < w.heap.size ∧ ∀ j (hj : j < ls.length), ∃ u, w.cell? ⟨b, o + j, none⟩ = some u ∧ LL w u ls[j]) := by
  obtain ⟨vs, h0, ⟨h1, A, c, h2, h3, h4, h5⟩, h6⟩ := h
  refine ⟨A, c, h2, h3, h4, fun hn => ?_⟩
  obtain ⟨b, o, h7, h8⟩ := h5 hn
  have hc : ∀ j (hj : j < ls.length), ∃ u, w.cell? ⟨b, o + j, none⟩ = some u ∧ LL w u ls[j] := fun j hj =>
    ⟨vs[j], h8 j _ (List.getElem?_eq_getElem (by omega)), h6 j _ _ (List.getElem?_eq_getElem (by omega)) (List.getElem?_eq_getElem hj)⟩
  obtain ⟨u, h9, _⟩ := hc 0 hn
  exact ⟨b, o, h7, World.block_lt_of_cell? w _ h9, hc⟩
theorem Fcts.open_ {w : World} {v : Value} {fs : List QFact} (h : Fcts w v fs) : ∃ A c, v = .slice A fs.length c ∧ fs.length ≤ c ∧ c ≤ 9223372036854775807 ∧ (0 < fs.length → ∃ b o, A = some ⟨b, o, none⟩ ∧ b < w.heap.size ∧ ∀ j (hj : j < fs.length), w.cell? ⟨b, o + j * 5, none⟩ = some (I fs[j].fr) ∧ w.cell? ⟨b, o + j * 5 + 1, none⟩ = some (I fs[j].many) ∧ w.cell? ⟨b, o + j * 5 + 2, none⟩ = some (I fs[j].to) ∧ w.cell? ⟨b, o + j * 5 + 3, none⟩ = some (I fs[j].low) ∧ w.cell? ⟨b, o + j * 5 + 4, none⟩ = some (I fs[j].high)) := by
  obtain ⟨h1, A, c, h2, h3, h4, h5⟩ := h
  refine ⟨A, c, h2, h3, h4, fun hn => ?_⟩
  obtain ⟨b, o, h7, h8⟩ := h5 hn
  have hc : ∀ j (hj : j < fs.length), w.cell? ⟨b, o + j * 5, none⟩ = some (I fs[j].fr) ∧ w.cell? ⟨b, o + j * 5 + 1, none⟩ = some (I fs[j].many) ∧ w.cell? ⟨b, o + j * 5 + 2, none⟩ = some (I fs[j].to) ∧ w.cell? ⟨b, o + j * 5 + 3, none⟩ = some (I fs[j].low) ∧ w.cell? ⟨b, o + j * 5 + 4, none⟩ = some (I fs[j].high) := fun j hj => by
    obtain ⟨a0, a1, a2, a3, a4⟩ := fctCells_at fs j hj
    simp only [Nat.add_assoc]
    exact ⟨h8 _ _ a0, h8 _ _ a1, h8 _ _ a2, h8 _ _ a3, h8 _ _ a4⟩
  exact ⟨b, o, h7, World.block_lt_of_cell? w _ (hc 0 hn).1, hc⟩
/-- A town where it lies. -/
def QAt (w : World) (v : Value) (t : QTown) : Prop := ∃ wv fv, v = .agg #[I t.wells, wv, fv] ∧ LW w wv t.wds ∧ Fcts w fv t.fcs
theorem QAt.below {w w' : World} {v : Value} {t : QTown} (h : QAt w v t) (hb : Below w.heap.size w w') : QAt w' v t := by
  obtain ⟨wv, fv, e, h1, h2⟩ := h
  exact ⟨wv, fv, e, h1.below hb, h2.below hb⟩
/-- A world of a town, where it lies. -/
def QWAt (w : World) (v : Value) (ls : List (List Int)) : Prop := ∃ fv, v = .agg #[fv] ∧ LL w fv ls
theorem QWAt.below {w w' : World} {v : Value} {ls : List (List Int)} (h : QWAt w v ls) (hb : Below w.heap.size w w') : QWAt w' v ls := by
  obtain ⟨fv, e, h1⟩ := h
  exact ⟨fv, e, h1.below hb⟩

set_option maxRecDepth 20000 in
set_option maxHeartbeats 400000 in
theorem qWithin_any (n lo hi : Int) (w : World) :
    Calls Tryd.prog 43 #[I n, I lo, I hi] w fun e w' => e = .returned (.bool (inR n lo hi)) ∧ w = w' := by
  by_cases h1 : lo ≤ n
  · by_cases h2 : n ≤ hi
    · go_enter Tryd.func43, Tryd.ntmps43
      go_wp2
      go_ret
      exact ⟨by simp [inR, *], rfl⟩
    · go_enter Tryd.func43, Tryd.ntmps43
      go_wp2
      go_ret
      exact ⟨by simp [inR, *], rfl⟩
  · go_enter Tryd.func43, Tryd.ntmps43
    go_wp2
    go_ret
    exact ⟨by simp [inR]; omega, rfl⟩

set_option maxRecDepth 20000 in
set_option maxHeartbeats 400000 in
theorem rWithin5_any (n lo hi : Int) (w : World) :
    Calls Tryd.prog 34 #[I n, I lo, I hi] w fun e w' => e = .returned (.bool (inR n lo hi)) ∧ w = w' := by
  go_enter Tryd.func34, Tryd.ntmps34
  go_wp2_with fail
  refine (rWithin_any _ _ _ _).mono ?_
  rintro e w1 ⟨rfl, rfl⟩
  go_wp2_with fail
  go_ret
  exact ⟨rfl, rfl⟩

set_option maxRecDepth 20000 in
set_option maxHeartbeats 400000 in
theorem qIsWell_any (W n : Int) (wv fv : Value) (w : World) (hs : ∃ A m c, wv = .slice A m c) (hp : ∃ A m c, fv = .slice A m c) (h0 : 0 ≤ W) (h6 : W ≤ 1000) :
    Calls Tryd.prog 89 #[.agg #[I W, wv, fv], I n] w fun e w' => e = .returned (.bool (inR n 0 (W - 1))) ∧ Below w.heap.size w w' := by
  obtain ⟨A, m, c, rfl⟩ := hs
  obtain ⟨A', m', c', rfl⟩ := hp
  go_enter Tryd.func89, Tryd.ntmps89
  go_wp2_with fail
  refine (qWithin_any _ _ _ _).mono ?_
  rintro e w1 ⟨rfl, rfl⟩
  go_wp2_with fail
  go_ret
  exact ⟨rfl, (Below.refl _ _).alloc (Nat.le_refl _) _⟩

set_option maxRecDepth 20000 in
set_option maxHeartbeats 400000 in
theorem rIsWell5_any (W n : Int) (wv fv : Value) (w : World) (hs : ∃ A m c, wv = .slice A m c) (hp : ∃ A m c, fv = .slice A m c) (h0 : 0 ≤ W) (h6 : W ≤ 1000) :
    Calls Tryd.prog 9 #[.agg #[I W, wv, fv], I n] w fun e w' => e = .returned (.bool (inR n 0 (W - 1))) ∧ Below w.heap.size w w' := by
  obtain ⟨A, m, c, rfl⟩ := hs
  obtain ⟨A', m', c', rfl⟩ := hp
  go_enter Tryd.func9, Tryd.ntmps9
  go_wp2_with fail
  refine (rWithin5_any _ _ _ _).mono ?_
  rintro e w1 ⟨rfl, rfl⟩
  go_wp2_with fail
  go_ret
  exact ⟨rfl, (Below.refl _ _).alloc (Nat.le_refl _) _⟩

set_option maxRecDepth 20000 in
set_option maxHeartbeats 400000 in
theorem rIsWorld5_any (W n : Int) (A A' : Option Addr) (m c m' c' : Nat) (w : World) (hm : m ≤ 1000) :
    Calls Tryd.prog 10 #[.agg #[I W, .slice A m c, .slice A' m' c'], I n] w fun e w' => e = .returned (.bool (inR n 0 ((m : Int) - 1))) ∧ Below w.heap.size w w' := by
  go_enter Tryd.func10, Tryd.ntmps10
  go_wp2_with fail
  refine (rWithin5_any _ _ _ _).mono ?_
  rintro e w1 ⟨rfl, rfl⟩
  go_wp2_with fail
  go_ret
  exact ⟨rfl, (Below.refl _ _).alloc (Nat.le_refl _) _⟩

/-- By how many feet a bucket drawn from a well lowers another one, in a world. -/
def fallQ (ls : List (List Int)) (fr to : Nat) : Int := (ls.getD fr []).getD to 0
set_option maxRecDepth 20000 in
set_option maxHeartbeats 1000000 in
theorem fall_any (v : Value) (t : QTown) (n fr to : Nat) (w : World) (hv : QAt w v t) (hn : n < t.wds.length) (hfr : fr < (t.wds[n]).length) (hto : to < (t.wds[n][fr]).length) :
    Calls Tryd.prog 14 #[v, I (n : Nat), I (fr : Nat), I (to : Nat)] w fun e w' => e = .returned (I (fallQ t.wds[n] fr to)) ∧ Below w.heap.size w w' := by
  obtain ⟨wv, fv, rfl, hw, hf⟩ := hv
  obtain ⟨A1, c1, rfl, -, -, hwc⟩ := id hw.open_
  obtain ⟨A2, c2, rfl, -, -, hfc⟩ := id hf.open_
  have HW := Lib.hid hw
  have HF := Lib.hid hf
  obtain ⟨b1, o1, hA1, hb1, hc1⟩ := hwc (by omega)
  subst hA1
  obtain ⟨u, hu, hl⟩ := hc1 n hn
  obtain ⟨A3, c3, rfl, -, -, hlc⟩ := id hl.open_
  obtain ⟨b3, o3, hA3, hb3, hc3⟩ := hlc (by omega)
  subst hA3
  obtain ⟨u2, hu2, hi⟩ := hc3 fr hfr
  obtain ⟨A4, c4, rfl, -, -, hic⟩ := id hi.open_
  obtain ⟨b4, o4, hA4, hb4, hc4⟩ := hic (by omega)
  subst hA4
  have y := hc4 to hto
  have e1 : fallQ t.wds[n] fr to = t.wds[n][fr][to] := by simp [fallQ, List.getElem?_eq_getElem hfr, List.getElem?_eq_getElem hto]
  rw [← e1] at y
  obtain ⟨x, hx⟩ : ∃ x, fallQ t.wds[n] fr to = x := ⟨_, rfl⟩
  rw [hx] at y ⊢
  obtain ⟨m3, hm3⟩ : ∃ m, t.wds[n].length = m := ⟨_, rfl⟩
  obtain ⟨m4, hm4⟩ : ∃ m, t.wds[n][fr].length = m := ⟨_, rfl⟩
  rw [hm3] at hu
  rw [hm4] at hu2
  have hn' : (n : Int) < (t.wds.length : Int) := by omega
  have hfr' : (fr : Int) < (m3 : Int) := by omega
  have hto' : (to : Int) < (m4 : Int) := by omega
  have S := Lib.hid (show St w (w.alloc (.cells #[I t.wells, .slice (some ⟨b1, o1, none⟩) t.wds.length c1, .slice A2 t.fcs.length c2] 29)) (w.heap.size + 1) [.box w.heap.size [I t.wells, .slice (some ⟨b1, o1, none⟩) t.wds.length c1, .slice A2 t.fcs.length c2]] from (St.init w).alloc [I t.wells, .slice (some ⟨b1, o1, none⟩) t.wds.length c1, .slice A2 t.fcs.length c2] 29)
  have q1 := S.out.get 0 1 rfl rfl
  clear hwc hfc hc1 hlc hc3 hic hc4 hl hi hw hf e1 hx hm3 hm4
  go_enter Tryd.func14, Tryd.ntmps14
  go_wp2_with fail
  go_ret
  exact ⟨rfl, S.out.bel⟩

set_option maxRecDepth 20000 in
set_option maxHeartbeats 2000000 in
theorem agrees_any (v : Value) (ls : List (List Int)) (fr to : Nat) (many low high : Int) (w : World) (hv : QWAt w v ls) (hfr : fr < ls.length) (hto : to < (ls[fr]).length) (hbd : 0 ≤ fallQ ls fr to ∧ fallQ ls fr to ≤ 9) (hmany : 1 ≤ many ∧ many ≤ 9) :
    Calls Tryd.prog 44 #[v, .agg #[I (fr : Nat), I many, I (to : Nat), I low, I high]] w fun e w' => e = .returned (.bool (inR (fallQ ls fr to * many) low high)) ∧ Below w.heap.size w w' := by
  obtain ⟨fv, rfl, hl⟩ := hv
  obtain ⟨A3, c3, rfl, -, -, hlc⟩ := id hl.open_
  obtain ⟨b3, o3, hA3, hb3, hc3⟩ := hlc (by omega)
  subst hA3
  obtain ⟨u2, hu2, hi⟩ := hc3 fr hfr
  obtain ⟨A4, c4, rfl, -, -, hic⟩ := id hi.open_
  obtain ⟨b4, o4, hA4, hb4, hc4⟩ := hic (by omega)
  subst hA4
  have y := hc4 to hto
  have e1 : fallQ ls fr to = ls[fr][to] := by simp [fallQ, List.getElem?_eq_getElem hfr, List.getElem?_eq_getElem hto]
  rw [← e1] at y
  obtain ⟨x, hx⟩ : ∃ x, fallQ ls fr to = x := ⟨_, rfl⟩
  rw [hx] at y hbd ⊢
  obtain ⟨m4, hm4⟩ : ∃ m, ls[fr].length = m := ⟨_, rfl⟩
  rw [hm4] at hu2
  have hfr' : (fr : Int) < (ls.length : Int) := by omega
  have hto' : (to : Int) < (m4 : Int) := by omega
  have S := Lib.hid (show St w ((w.alloc (.cells #[.slice (some ⟨b3, o3, none⟩) ls.length c3] 80)).alloc (.cells #[I (fr : Nat), I many, I (to : Nat), I low, I high] 49)) (w.heap.size + 1 + 1) [.box (w.heap.size + 1) [I (fr : Nat), I many, I (to : Nat), I low, I high], .box w.heap.size [.slice (some ⟨b3, o3, none⟩) ls.length c3]] from ((St.init w).alloc [.slice (some ⟨b3, o3, none⟩) ls.length c3] 80).alloc [I (fr : Nat), I many, I (to : Nat), I low, I high] 49)
  have m1 := Int.mul_le_mul hbd.2 hmany.2 (by omega) (by omega)
  have m2 := Int.mul_nonneg hbd.1 (show 0 ≤ many by omega)
  have w1 : IntKind.i64.wrap (x * many) = x * many := IntWalk.i64_in _ (by omega)
  clear hlc hc3 hic hc4 hl hi e1 hx hm4 m1 m2
  have Y := Lib.hid y
  have HU2 := Lib.hid hu2
  clear y hu2
  go_enter Tryd.func44, Tryd.ntmps44
  go_wp2_with fail
  refine wp_region_seg [([0, 1, 2, 3, 4, 5, 6, 7, 8, 9, 10, 11, 12, 13, 14, 15, 16], 17)] [18] [] 19 (by kernel_rfl) (by kernel_rfl) ?_
  intro KQ hKQ wa hb
  have S := Lib.hid (S.out.call hb)
  have y := cell_regrown (keep_cell S.out.bel Y.out)
  have hu2 := cell_regrown (keep_cell S.out.bel HU2.out)
  clear hb
  have p0 := cell_regrown (S.out.get 1 0 rfl rfl)
  have q0 := cell_regrown (S.out.get 0 0 rfl rfl)
  have q1 := cell_regrown (S.out.get 0 1 rfl rfl)
  have q2 := cell_regrown (S.out.get 0 2 rfl rfl)
  have q3 := cell_regrown (S.out.get 0 3 rfl rfl)
  have q4 := cell_regrown (S.out.get 0 4 rfl rfl)
  refine seg_next ?_
  simp only [opsAt, List.filterMap_cons, List.filterMap_nil, List.getElem?_toArray, List.getElem?_cons_succ, List.getElem?_cons_zero]
  repeat (first | go_big_quiet_step (fail) | quiet_step (fail))
  refine wpQuiet_nil ?_
  intro K hK
  refine loud_op rfl rfl ?_
  go_simp
  refine (qWithin_any _ _ _ _).mono ?_
  rintro e wb ⟨rfl, rfl⟩
  refine hK _ _ (Below.refl _ _) ?_
  clear hK K y hu2 p0 q0 q1 q2 q3 q4
  refine seg_last ?_
  simp only [opsAt, List.filterMap_cons, List.filterMap_nil, List.getElem?_toArray, List.getElem?_cons_succ, List.getElem?_cons_zero]
  repeat (first | go_big_quiet_step (fail) | quiet_step (fail))
  refine wpQuiet_nil ?_
  go_wp2_with fail
  go_ret
  exact ⟨rfl, S.out.bel⟩

end Go.Proofs.YtldcehhhndlhdaaDoor
/- Walks: Check of quarrels, with its functions in functions. -/
namespace Go.Proofs.YtldcehhhndlhdaaDoor
open Go.RowKit Go.Sort

set_option maxRecDepth 20000 in
set_option maxHeartbeats 400000 in
theorem qc11_any (n : Int) (w : World) :
    Calls Tryd.prog 85 #[I n] w fun e w' => e = .returned (.bool (!inR n 0 9)) ∧ Below w.heap.size w w' := by
  go_enter Tryd.func85, Tryd.ntmps85
  go_wp2_with fail
  refine (qWithin_any _ _ _ _).mono ?_
  rintro e w' ⟨rfl, rfl⟩
  go_wp2_with fail
  go_ret
  exact ⟨rfl, Below.refl _ _⟩

set_option maxRecDepth 20000 in
set_option maxHeartbeats 2000000 in
theorem qIntIx_no (v : Value) (xs : List Int) (w : World) (hr : Ints w v xs) (hn : xs.any (fun x => !inR x 0 9) = false) :
    Calls Tryd.prog 95 #[v, .func (.func 85) #[] #[]] w fun e w' => e = .returned (I (-1)) ∧ Below w.heap.size w w' := by
  obtain ⟨A, c, rfl, hnc, hcm, hc⟩ := hr.open_
  have HC := Lib.hid hc
  have HN := Lib.hid hn
  have HR := Lib.hid hr
  clear hc hn hr
  go_enter Tryd.func95, Tryd.ntmps95
  go_wp2_with fail
  go_loopw [8] (fun i wr => ∃ k : Nat, k ≤ xs.length ∧ i = I k ∧ Hid (Below w.heap.size w wr)) (fun i _ => xs.length - (intOf i).toNat)
  case atStart => exact ⟨0, by omega, rfl, Lib.hid (Below.refl _ _)⟩
  case round =>
    obtain ⟨k, hk, rfl, hbw⟩ := hrel
    by_cases hlt : k < xs.length
    · have hb : (fun x => !inR x 0 9) xs[k] = false := by
        have := HN.out
        simp only [List.any_eq_false] at this
        simpa using this _ (List.getElem_mem hlt)
      obtain ⟨b, o, rfl, hbl, hcell⟩ := HC.out (by omega)
      have y0 := keep_cell hbw.out (hcell k hlt)
      obtain ⟨x, hx⟩ : ∃ x, xs[k] = x := ⟨_, rfl⟩
      rw [hx] at y0
      rw [hx] at hb
      clear hcell hx
      have HB := Lib.hid hb
      clear hb
      have hki : (k : Int) < (xs.length : Int) := by omega
      go_wp2_with fail
      clear y0
      refine (qc11_any x _).mono ?_
      rintro e w' ⟨rfl, hb1⟩
      rw [HB.out]
      have hbw := Lib.hid (bto hbw.out hb1)
      clear hb1
      go_wp2_with fail
      go_roundw
      case rel => exact ⟨k + 1, by omega, by go_num, hbw⟩
      case measure => first | (simp [intOf]; done) | (simp [intOf]; omega)
    · go_wp2_with fail
      go_ret
      exact ⟨rfl, hbw.out⟩

set_option maxRecDepth 20000 in
set_option maxHeartbeats 2000000 in
theorem qIntIx_yes (v : Value) (xs : List Int) (w : World) (hr : Ints w v xs) (hn : xs.any (fun x => !inR x 0 9) = true) :
    Calls Tryd.prog 95 #[v, .func (.func 85) #[] #[]] w fun e w' => RetNat w e w' := by
  obtain ⟨A, c, rfl, hnc, hcm, hc⟩ := hr.open_
  have HC := Lib.hid hc
  have HN := Lib.hid hn
  have HR := Lib.hid hr
  clear hc hn hr
  go_enter Tryd.func95, Tryd.ntmps95
  go_wp2_with fail
  go_loopw [8] (fun i wr => ∃ k : Nat, k ≤ xs.length ∧ i = I k ∧ (xs.drop k).any (fun x => !inR x 0 9) = true ∧ Hid (Below w.heap.size w wr)) (fun i _ => xs.length - (intOf i).toNat)
  case atStart => exact ⟨0, by omega, rfl, HN.out, Lib.hid (Below.refl _ _)⟩
  case round =>
    obtain ⟨k, hk, rfl, hd, hbw⟩ := hrel
    have hlt : k < xs.length := by
      apply Classical.byContradiction
      intro hge
      rw [List.drop_eq_nil_of_le (by omega)] at hd
      simp at hd
    rw [List.drop_eq_getElem_cons hlt, List.any_cons] at hd
    obtain ⟨b, o, rfl, hbl, hcell⟩ := HC.out (by omega)
    have y0 := keep_cell hbw.out (hcell k hlt)
    obtain ⟨x, hx⟩ : ∃ x, xs[k] = x := ⟨_, rfl⟩
    rw [hx] at y0
    rw [hx] at hd
    clear hcell hx
    have HD := Lib.hid hd
    clear hd
    have hki : (k : Int) < (xs.length : Int) := by omega
    go_wp2_with fail
    clear y0
    refine (qc11_any x _).mono ?_
    rintro e w' ⟨rfl, hb1⟩
    have hbw := Lib.hid (bto hbw.out hb1)
    clear hb1
    generalize hb : (!inR x 0 9) = pb
    rw [hb] at HD
    cases pb
    · have HB := Lib.hid hb
      clear hb
      go_wp2_with fail
      go_roundw
      case rel => exact ⟨k + 1, by omega, by go_num, by have := HD.out; simpa using this, hbw⟩
      case measure => first | (simp [intOf]; done) | (simp [intOf]; omega)
    · clear hb HD
      go_wp2_with fail
      go_ret
      exact ⟨k, rfl, hbw.out⟩

set_option maxRecDepth 20000 in
set_option maxHeartbeats 400000 in
theorem qIntCon_any (v : Value) (xs : List Int) (w : World) (hr : Ints w v xs) :
    Calls Tryd.prog 69 #[v, .func (.func 85) #[] #[]] w fun e w' => e = .returned (.bool (xs.any (fun x => !inR x 0 9))) ∧ Below w.heap.size w w' := by
  cases hb : xs.any (fun x => !inR x 0 9)
  · go_enter Tryd.func69, Tryd.ntmps69
    go_wp2_with fail
    refine (qIntIx_no v xs _ hr hb).mono ?_
    rintro e w' ⟨rfl, hw⟩
    go_wp2_with fail
    go_ret
    exact ⟨rfl, hw⟩
  · go_enter Tryd.func69, Tryd.ntmps69
    go_wp2_with fail
    refine (qIntIx_yes v xs _ hr hb).mono ?_
    rintro e w' ⟨k, rfl, hw⟩
    go_wp2_with fail
    go_ret
    exact ⟨rfl, hw⟩

set_option maxRecDepth 20000 in
set_option maxHeartbeats 400000 in
theorem qIntNone_any (v : Value) (xs : List Int) (w : World) (hr : Ints w v xs) :
    Calls Tryd.prog 84 #[v, .func (.func 85) #[] #[]] w fun e w' => e = .returned (.bool (!xs.any (fun x => !inR x 0 9))) ∧ Below w.heap.size w w' := by
  go_enter Tryd.func84, Tryd.ntmps84
  go_wp2_with fail
  refine (qIntCon_any v xs _ hr).mono ?_
  rintro e w' ⟨rfl, hw⟩
  go_wp2_with fail
  go_ret
  exact ⟨rfl, hw⟩

/-- A row that is not valid; a world; a fact. -/
def badRow (W : Int) (l : List Int) : Bool := decide ((l.length : Int) ≠ W) || l.any fun x => !inR x 0 9
def badWd (W : Int) (ls : List (List Int)) : Bool := decide ((ls.length : Int) ≠ W) || ls.any (badRow W)
def badFct (W : Int) (f : QFact) : Bool := !inR f.fr 0 (W - 1) || !inR f.to 0 (W - 1) || !inR f.many 1 9 || !inR f.low 0 f.high || decide (99 < f.high)
set_option maxRecDepth 20000 in
set_option maxHeartbeats 1000000 in
theorem qc1_any (v : Value) (l : List Int) (W : Int) (bx : Nat) (w : World) (hr : Ints w v l) (hx : w.cell? ⟨bx, 0, none⟩ = some (I W)) :
    Calls Tryd.prog 83 #[v, .pointer (some ⟨bx, 0, none⟩)] w fun e w' => e = .returned (.bool (badRow W l)) ∧ Below w.heap.size w w' := by
  obtain ⟨A, c, rfl, -, -, -⟩ := id hr.open_
  have HR := Lib.hid hr
  clear hr
  by_cases h : (l.length : Int) = W
  · have HE := Lib.hid (show badRow W l = l.any (fun x => !inR x 0 9) by unfold badRow; rw [decide_eq_false (by simpa using h)]; rfl)
    have hq : ((l.length : Int) != W) = false := by simp [h]
    clear h
    go_enter Tryd.func83, Tryd.ntmps83
    go_wp2_with fail
    refine (qIntNone_any _ _ _ HR.out).mono ?_
    rintro e w1 ⟨rfl, hb⟩
    have HB := Lib.hid hb
    clear hb hx hq
    go_wp2_with fail
    go_ret
    exact ⟨by rw [HE.out]; simp, HB.out⟩
  · have HE := Lib.hid (show badRow W l = true by unfold badRow; rw [decide_eq_true (by simpa using h)]; rfl)
    have hq : ((l.length : Int) != W) = true := by simp [h]
    clear h
    go_enter Tryd.func83, Tryd.ntmps83
    go_wp2_with fail
    go_ret
    exact ⟨by rw [HE.out]; rfl, Below.refl _ _⟩

set_option maxRecDepth 20000 in
set_option maxHeartbeats 2000000 in
theorem qRowIx_no (v : Value) (xs : List (List Int)) (W : Int) (bx : Nat) (w : World) (hr : LL w v xs) (hx : w.cell? ⟨bx, 0, none⟩ = some (I W)) (hn : xs.any (fun l => badRow W l) = false) :
    Calls Tryd.prog 114 #[v, .func (.func 83) #[] #[.pointer (some ⟨bx, 0, none⟩)]] w fun e w' => e = .returned (I (-1)) ∧ Below w.heap.size w w' := by
  obtain ⟨A, c, rfl, hnc, hcm, hc⟩ := hr.open_
  have HC := Lib.hid hc
  have HN := Lib.hid hn
  have HR := Lib.hid hr
  have HX := Lib.hid hx
  clear hc hn hr hx
  go_enter Tryd.func114, Tryd.ntmps114
  go_wp2_with fail
  go_loopw [8] (fun i wr => ∃ k : Nat, k ≤ xs.length ∧ i = I k ∧ Hid (Below w.heap.size w wr)) (fun i _ => xs.length - (intOf i).toNat)
  case atStart => exact ⟨0, by omega, rfl, Lib.hid (Below.refl _ _)⟩
  case round =>
    obtain ⟨k, hk, rfl, hbw⟩ := hrel
    by_cases hlt : k < xs.length
    · have hb : (fun l => badRow W l) xs[k] = false := by
        have := HN.out
        simp only [List.any_eq_false] at this
        simpa using this _ (List.getElem_mem hlt)
      obtain ⟨b, o, rfl, hbl, hcell⟩ := HC.out (by omega)
      obtain ⟨u, hu, hi⟩ := hcell k hlt
      have y0 := keep_cell hbw.out hu
      have HI := Lib.hid (hi.below hbw.out)
      obtain ⟨l, hl⟩ : ∃ l, xs[k] = l := ⟨_, rfl⟩
      rw [hl] at HI
      rw [hl] at hb
      obtain ⟨A4, c4, rfl, -, -, -⟩ := id HI.out.open_
      clear hcell hl hu hi
      have HB := Lib.hid hb
      clear hb
      have hki : (k : Int) < (xs.length : Int) := by omega
      go_wp2_with fail
      clear y0
      refine (qc1_any _ l W bx _ HI.out (keep_cell hbw.out HX.out)).mono ?_
      rintro e w' ⟨rfl, hb1⟩
      rw [HB.out]
      have hbw := Lib.hid (bto hbw.out hb1)
      clear hb1
      go_wp2_with fail
      go_roundw
      case rel => exact ⟨k + 1, by omega, by go_num, hbw⟩
      case measure => first | (simp [intOf]; done) | (simp [intOf]; omega)
    · go_wp2_with fail
      go_ret
      exact ⟨rfl, hbw.out⟩

set_option maxRecDepth 20000 in
set_option maxHeartbeats 2000000 in
theorem qRowIx_yes (v : Value) (xs : List (List Int)) (W : Int) (bx : Nat) (w : World) (hr : LL w v xs) (hx : w.cell? ⟨bx, 0, none⟩ = some (I W)) (hn : xs.any (fun l => badRow W l) = true) :
    Calls Tryd.prog 114 #[v, .func (.func 83) #[] #[.pointer (some ⟨bx, 0, none⟩)]] w fun e w' => RetNat w e w' := by
  obtain ⟨A, c, rfl, hnc, hcm, hc⟩ := hr.open_
  have HC := Lib.hid hc
  have HN := Lib.hid hn
  have HR := Lib.hid hr
  have HX := Lib.hid hx
  clear hc hn hr hx
  go_enter Tryd.func114, Tryd.ntmps114
  go_wp2_with fail
  go_loopw [8] (fun i wr => ∃ k : Nat, k ≤ xs.length ∧ i = I k ∧ (xs.drop k).any (fun l => badRow W l) = true ∧ Hid (Below w.heap.size w wr)) (fun i _ => xs.length - (intOf i).toNat)
  case atStart => exact ⟨0, by omega, rfl, HN.out, Lib.hid (Below.refl _ _)⟩
  case round =>
    obtain ⟨k, hk, rfl, hd, hbw⟩ := hrel
    have hlt : k < xs.length := by
      apply Classical.byContradiction
      intro hge
      rw [List.drop_eq_nil_of_le (by omega)] at hd
      simp at hd
    rw [List.drop_eq_getElem_cons hlt, List.any_cons] at hd
    obtain ⟨b, o, rfl, hbl, hcell⟩ := HC.out (by omega)
    obtain ⟨u, hu, hi⟩ := hcell k hlt
    have y0 := keep_cell hbw.out hu
    have HI := Lib.hid (hi.below hbw.out)
    obtain ⟨l, hl⟩ : ∃ l, xs[k] = l := ⟨_, rfl⟩
    rw [hl] at HI
    rw [hl] at hd
    obtain ⟨A4, c4, rfl, -, -, -⟩ := id HI.out.open_
    clear hcell hl hu hi
    have HD := Lib.hid hd
    clear hd
    have hki : (k : Int) < (xs.length : Int) := by omega
    go_wp2_with fail
    clear y0
    refine (qc1_any _ l W bx _ HI.out (keep_cell hbw.out HX.out)).mono ?_
    rintro e w' ⟨rfl, hb1⟩
    have hbw := Lib.hid (bto hbw.out hb1)
    clear hb1
    generalize hb : badRow W l = pb
    rw [hb] at HD
    cases pb
    · have HB := Lib.hid hb
      clear hb
      go_wp2_with fail
      go_roundw
      case rel => exact ⟨k + 1, by omega, by go_num, by have := HD.out; simpa using this, hbw⟩
      case measure => first | (simp [intOf]; done) | (simp [intOf]; omega)
    · clear hb HD
      go_wp2_with fail
      go_ret
      exact ⟨k, rfl, hbw.out⟩

set_option maxRecDepth 20000 in
set_option maxHeartbeats 400000 in
theorem qRowCon_any (v : Value) (xs : List (List Int)) (W : Int) (bx : Nat) (w : World) (hr : LL w v xs) (hx : w.cell? ⟨bx, 0, none⟩ = some (I W)) :
    Calls Tryd.prog 106 #[v, .func (.func 83) #[] #[.pointer (some ⟨bx, 0, none⟩)]] w fun e w' => e = .returned (.bool (xs.any (fun l => badRow W l))) ∧ Below w.heap.size w w' := by
  cases hb : xs.any (fun l => badRow W l)
  · go_enter Tryd.func106, Tryd.ntmps106
    go_wp2_with fail
    refine (qRowIx_no v xs W bx _ hr hx hb).mono ?_
    rintro e w' ⟨rfl, hw⟩
    go_wp2_with fail
    go_ret
    exact ⟨rfl, hw⟩
  · go_enter Tryd.func106, Tryd.ntmps106
    go_wp2_with fail
    refine (qRowIx_yes v xs W bx _ hr hx hb).mono ?_
    rintro e w' ⟨k, rfl, hw⟩
    go_wp2_with fail
    go_ret
    exact ⟨rfl, hw⟩

set_option maxRecDepth 20000 in
set_option maxHeartbeats 400000 in
theorem qRowNone_any (v : Value) (xs : List (List Int)) (W : Int) (bx : Nat) (w : World) (hr : LL w v xs) (hx : w.cell? ⟨bx, 0, none⟩ = some (I W)) :
    Calls Tryd.prog 87 #[v, .func (.func 83) #[] #[.pointer (some ⟨bx, 0, none⟩)]] w fun e w' => e = .returned (.bool (!xs.any (fun l => badRow W l))) ∧ Below w.heap.size w w' := by
  go_enter Tryd.func87, Tryd.ntmps87
  go_wp2_with fail
  refine (qRowCon_any v xs W bx _ hr hx).mono ?_
  rintro e w' ⟨rfl, hw⟩
  go_wp2_with fail
  go_ret
  exact ⟨rfl, hw⟩

end Go.Proofs.YtldcehhhndlhdaaDoor
/- A range over a function whose iterator tells of each thing that it yields what is so in the world in which it yields it (R), and that may ask of the caller's invariant what it needs (C). No function here; no conditions. -/
namespace Go.Proofs.YtldcehhhndlhdaaDoor
open Go.RowKit

/-- What an iterator keeps, told of each round what it yields. -/
def SeqR {α : Type} (F : Fence) (n : Nat) (P : Program) (g : Nat) (lb : Array Value) (encs : α → Array Value) (Kp : World → World → Prop) (S Sp : List α → Prop) (C : (List α → World → Prop) → Prop) (R : List α → α → World → Prop) (w : World) : Prop :=
  ∀ (l : Nat) (J Jx : List α → World → Prop) (W : World), Below w.heap.size w W → AbidesFrom W.heap.size J → AbidesFrom W.heap.size Jx → C J →
    (∀ pre x W1, J pre W1 → R pre x W1 → YieldAt F (n - 1) P l (encs x) W1 fun e W' =>
      (e = .returned (.bool true) ∧ J (pre ++ [x]) W' ∧ Kp W1 W') ∨ (e = .returned (.bool false) ∧ Jx (pre ++ [x]) W')) →
    J [] W →
    CallsIn F n P g (#[.func (.yield l) #[] #[]] ++ lb) W fun e W' => (∃ v, e = .returned v) ∧ ((∃ xs, S xs ∧ J xs W') ∨ (∃ pre, Sp pre ∧ Jx pre W'))

variable {F : Fence} {n : Nat} {P : Program}
theorem wpIn_rangeFunc_R {α : Type} {g : Operand} {ps : Array Tmp} {assign body : Code} {Q : Exit → Act → World → Prop} {a : Act} {w : World}
    (hro : F.round = none) (h1 : 1 ≤ n) {gf : Nat} {lb : Array Value} (hg : a.eval g = .func (.func gf) #[] lb) (hFg : F.fn gf) (eg : ∀ args w, (callFunc gf args).run P w = .ok (.enter gf args) w)
    {encs : α → Array Value} {Kp : World → World → Prop} {S Sp : List α → Prop} {C : (List α → World → Prop) → Prop} {R : List α → α → World → Prop} {w0 : World} (hseq : SeqR F (n - 1) P gf lb encs Kp S Sp C R w0)
    (hKt : ∀ {A B C : World}, Kp A B → Kp B C → Kp A C) (hKb : ∀ (W : World) (l : Nat) (o o' : Obj), w.heap.size ≤ l → W.heap[l]? = some o → o.isCells = false → o.isWalk = false → Kp W (W.putObj l o')) (hb0 : Below w0.heap.size w0 w) (hps : ∀ x, (encs x).size = ps.size)
    (I : List α → World → Prop) (Ix : Code → List α → World → Prop) (hI : OwnFrom w.heap.size I) (hIx : ∀ c, OwnFrom w.heap.size (Ix c)) (hC : ∀ J : List α → World → Prop, (∀ pre W, J pre W → I pre W) → C J) (h0 : I [] w) (Ax : List α → α → Act → World → Prop) (hAx : ∀ pre x a', OwnFrom w.heap.size (fun (_ : Unit) W => Ax pre x a' W))
    (hassign : ∀ (l : Nat) (pre : List α) (x : α) (W : World) (K : Act → World → Prop), I pre W → R pre x W → (∀ a' W', KeepsFrom w.heap.size W W' → Kp W W' → I pre W' → Ax pre x a' W' → K a' W') →
      assign.wpIn (F.inRound l) (n - 1 - 1) P (Exit.then K (fun _ _ _ => False)) { tmps := (ps.zip (encs x)).foldl (fun t (p, v) => t.setIfInBounds p v) a.tmps, defers := [] } W)
    (hbody : ∀ (l : Nat) (pre : List α) (x : α) (a' : Act) (W : World), w.heap.size ≤ l → (∃ r, W.heap[l]? = some (.loop r)) → I pre W → Ax pre x a' W → body.wpIn (F.inRound l) (n - 1 - 1) P (ownPostG w.heap.size Kp I Ix (pre ++ [x]) W) a' W)
    (hdone : ∀ (D : Nat) (xs : List α) (W : World), w.heap.size ≤ D → S xs → I xs W → W.heap[D]? = some (.deferred (some [])) → Q .normal { a with defers := { target := .collected D, args := #[] } :: a.defers } W)
    (hstop : ∀ (D : Nat) (c : Code) (pre : List α) (W : World), w.heap.size ≤ D → Sp pre → Ix c pre W → W.heap[D]? = some (.deferred (some [])) → c.wpIn F n P Q { a with defers := { target := .collected D, args := #[] } :: a.defers } W) :
    (Code.rangeFunc g ps assign body).wpIn F n P Q a w := by
  refine wpIn_rangeFunc fun fn hfn => ?_
  rw [hro]
  obtain ⟨D, hD⟩ : ∃ D, w.heap.size = D := ⟨_, rfl⟩
  obtain ⟨rec, hrec⟩ : ∃ rec : LoopState → Option Code → Loop, rec = fun st pe => { state := st, pending := pe, fn, tmps := a.tmps, params := ps, assign, body, defers := D } := ⟨_, rfl⟩
  obtain ⟨W1, hW1⟩ : ∃ W1, (w.alloc (.deferred (some []))).alloc (.loop (rec .ready none)) = W1 := ⟨_, rfl⟩
  have hsz1 : W1.heap.size = D + 2 := by rw [← hW1, ← hD]; simp
  have hL1 : W1.heap[D + 1]? = some (.loop (rec .ready none)) := by
    have := World.alloc_heap_new (w.alloc (.deferred (some []))) (.loop (rec .ready none))
    rwa [World.size_alloc, hW1, hD] at this
  have hK1 : W1.heap[D]? = some (.deferred (some [])) := by
    rw [← hW1, ← hD]
    exact (Below.heap_alloc _ _ _ (by simp)).trans (World.alloc_heap_new w _)
  have hI1 : I [] W1 := by rw [← hW1]; exact hI.alloc _ (hI.alloc _ h0)
  have hb1 : Below w0.heap.size w0 W1 := by
    rw [← hW1]
    exact hb0.trans ((((Below.refl _ w).alloc (Nat.le_refl _) _).alloc (by simp) _).mono hb0.size)
  rw [hD] at hI hIx hAx hbody hassign hKb hdone hstop
  refine ⟨D + 1, [{ target := .collected D, args := #[] }], W1, { target := .fn (.func gf) lb, args := #[.func (.yield (D + 1)) #[] #[]] }, W1, gf,
    #[.func (.yield (D + 1)) #[] #[]] ++ lb, W1, ?_, ?_, ?_, ?_, fun _ => h1, ?_⟩
  · rw [← hW1, hrec, ← hD]; exact run_enterLoop_outer _ _ _ _ _
  · simp only [resolve, hg]
    simp [go_sem]
  · intro f' hf'; simp [Target.leads] at hf'; subst hf'; exact hFg
  · simp [invoke, go_sem, eg]
  · have hab : ∀ {A : World} {row : Option Nat}, (∀ r, row = some r → W1.heap.size ≤ r ∧ ∃ o : Obj, A.heap[r]? = some o ∧ o.isWalk = true) → (∀ r, row = some r → D ≤ r ∧ ∃ o : Obj, A.heap[r]? = some o ∧ o.isCells = false) :=
      fun hr r e => by
        obtain ⟨hB, o, ho, hw⟩ := hr r e
        exact ⟨by omega, o, ho, Obj.not_cells_of_walk hw⟩
    refine (hseq (D + 1)
      (fun pre W => I pre W ∧ W.heap[D + 1]? = some (.loop (rec .ready none)) ∧ W.heap[D]? = some (.deferred (some [])))
      (fun pre W => ∃ c, Ix c pre W ∧ W.heap[D + 1]? = some (.loop (rec .done (some c))) ∧ W.heap[D]? = some (.deferred (some [])))
      W1 hb1
      (fun s A B row hs hg' hr => ⟨hI s A B row hs.1 hg' (hab hr), (grownBy_keeps hg' (fun r e => (hr r e).2) hs.2.1 rfl).trans hs.2.1, (grownBy_keeps hg' (fun r e => (hr r e).2) hs.2.2 rfl).trans hs.2.2⟩)
      (fun s A B row hs hg' hr => by
        obtain ⟨c, hc, hl, hk⟩ := hs
        exact ⟨c, hIx c s A B row hc hg' (hab hr), (grownBy_keeps hg' (fun r e => (hr r e).2) hl rfl).trans hl, (grownBy_keeps hg' (fun r e => (hr r e).2) hk rfl).trans hk⟩)
      (hC _ fun _ _ h => h.1) ?_ ⟨hI1, hL1, hK1⟩).mono ?_
    · rintro pre x W ⟨hi, hl, hk⟩ hR
      have hy := run_yield (P := P) (args := encs x) hl (by rw [hrec]; exact hps x)
      rw [hrec] at hy
      refine ⟨fn, _, assign, body, hy, roundIn_of_wpIn hfn (hassign _ pre x W _ hi hR ?_)⟩
      clear hy hR
      intro a' V hkf hkp hi' hax
      have hl' := hkf.same _ _ (by omega) hl rfl
      have hk' := hkf.same _ _ (Nat.le_refl _) hk rfl
      refine ⟨_, run_beginRound hl' (by rw [hrec]), ?_⟩
      have hlt : D + 1 < V.heap.size := (Array.getElem?_eq_some_iff.1 hl').1
      obtain ⟨V2, hV2⟩ : ∃ V2, V.putObj (D + 1) (.loop { rec .ready none with state := .busy }) = V2 := ⟨_, rfl⟩
      have hl2 : V2.heap[D + 1]? = some (.loop { rec .ready none with state := .busy }) := by rw [← hV2]; exact World.putObj_heap_same hlt
      have hk2 : V2.heap[D]? = some (.deferred (some [])) := by rw [← hV2]; exact (World.putObj_heap_other (by omega)).trans hk'
      have hw2 : Kp V V2 := by rw [← hV2]; exact hKb _ _ _ _ (by omega) hl' rfl rfl
      have hi2 : I pre V2 := by rw [← hV2]; exact hI.putObj _ hi' (by omega) hl' rfl
      have hax2 : Ax pre x a' V2 := by rw [← hV2]; exact (hAx pre x a').putObj (s := ()) _ hax (by omega) hl' rfl
      rw [hV2]
      refine wpIn_mono (hbody _ pre x a' _ (by omega) ⟨_, hl2⟩ hi2 hax2) ?_
      have fin : ∀ (jump : Option Code) (U : World), KeepsFrom D V2 U → ∃ U', (Instr.endRound (D + 1) jump).run P U = .ok (.bool jump.isNone) U' ∧
          (∀ (T : List α → World → Prop), OwnFrom D T → ∀ ys, T ys U → T ys U') ∧ Kp U U' ∧ U'.heap[D + 1]? = some (.loop (rec (if jump.isNone then .ready else .done) jump)) ∧ U'.heap[D]? = some (.deferred (some [])) := fun jump U hk3 => by
        have hl3 := hk3.same _ _ (by omega) hl2 rfl
        have hrun := run_endRound (P := P) jump hl3
        rw [hrec] at hrun
        refine ⟨_, hrun, fun T hT ys ht => hT.putObj _ ht (by omega) hl3 rfl, hKb _ _ _ _ (by omega) hl3 rfl rfl, ?_, ?_⟩
        · rw [hrec]; exact World.putObj_heap_same (Array.getElem?_eq_some_iff.1 hl3).1
        · exact (World.putObj_heap_other (by omega)).trans (hk3.same _ _ (Nat.le_refl _) hk2 rfl)
      rintro e a3 U hp
      cases e with
      | normal =>
        obtain ⟨hk3, hkp3, hi3⟩ := hp
        obtain ⟨U', hr, hT, hkp4, hl4, hk4⟩ := fin none U hk3
        exact ⟨_, U', hr, .inl ⟨rfl, ⟨hT _ hI _ hi3, hl4, hk4⟩, hKt hkp (hKt (hKt hw2 hkp3) hkp4)⟩⟩
      | ret =>
        obtain ⟨hk3, hi3⟩ := hp
        obtain ⟨U', hr, hT, _, hl4, hk4⟩ := fin (some .ret) U hk3
        exact ⟨_, U', hr, .inr ⟨rfl, .ret, hT _ (hIx _) _ hi3, hl4, hk4⟩⟩
      | exit id =>
        obtain ⟨hk3, hi3⟩ := hp
        obtain ⟨U', hr, hT, _, hl4, hk4⟩ := fin (some (.exit id)) U hk3
        exact ⟨_, U', hr, .inr ⟨rfl, .exit id, hT _ (hIx _) _ hi3, hl4, hk4⟩⟩
      | goto t =>
        obtain ⟨hk3, hi3⟩ := hp
        obtain ⟨U', hr, hT, _, hl4, hk4⟩ := fin (some (.goto t)) U hk3
        exact ⟨_, U', hr, .inr ⟨rfl, .goto t, hT _ (hIx _) _ hi3, hl4, hk4⟩⟩
      | panic ch => exact hp.elim
      | outgrown => exact hp.elim
    · rintro e U ⟨⟨v, rfl⟩, (⟨xs, hS, hi, hl, hk⟩ | ⟨pre, hSp, c, hi, hl, hk⟩)⟩
      · have hend := run_endLoop (P := P) hl (by rw [hrec]; simp)
        rw [hrec] at hend
        exact ⟨none, _, hend, hdone _ xs _ (Nat.le_refl _) hS (hI.putObj _ hi (by omega) hl rfl) ((World.putObj_heap_other (by omega)).trans hk)⟩
      · have hend := run_endLoop (P := P) hl (by rw [hrec]; simp)
        rw [hrec] at hend
        exact ⟨some c, _, hend, hstop _ c pre _ (Nat.le_refl _) hSp ((hIx c).putObj _ hi (by omega) hl rfl) ((World.putObj_heap_other (by omega)).trans hk)⟩
end Go.Proofs.YtldcehhhndlhdaaDoor
