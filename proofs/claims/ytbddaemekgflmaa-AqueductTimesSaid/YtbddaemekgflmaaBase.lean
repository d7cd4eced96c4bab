/- Readings of slices of integers and of points in memory, the data of a line, and small lemmas on them. Plain; no conditions. -/
import Derived.Test.YtbddaemekgflmaaRows
import Derived.Test.YtbddaemekgflmaaPlain
import Derived.WalkKit
import Derived.WalkSpells
import Derived.WalkLawsBesides
import Derived.Handy
import Derived.BigQuiet
import Derived.Lib.Hide
import Derived.Lib.QuietBelow
import Derived.Deep.RegionHeld3
namespace Go.Proofs.Ytbddaemekgflmaa
open Go.RowKit

abbrev I (n : Int) : Value := .int .i64 n

/-- The slice value 'v' holds the cells xs, n elements of 'size' cells each. -/
def Reads (w : World) (size : Nat) (v : Value) (n : Nat) (xs : List Value) : Prop :=
  xs.length = n * size ∧ ∃ A c, v = .slice A n c ∧ n ≤ c ∧ c ≤ 9223372036854775807 ∧ (0 < n → ∃ b o, A = some ⟨b, o, none⟩ ∧ ∀ j u, xs[j]? = some u → w.cell? ⟨b, o + j, none⟩ = some u)

theorem Reads.below {w w' : World} {size n : Nat} {v : Value} {xs : List Value} (h : Reads w size v n xs) (hb : Below w.heap.size w w') : Reads w' size v n xs := by
  obtain ⟨h1, A, c, h2, h3, h4, h5⟩ := h
  refine ⟨h1, A, c, h2, h3, h4, fun hn => ?_⟩
  obtain ⟨b, o, rfl, hc⟩ := h5 hn
  refine ⟨b, o, rfl, fun j u hu => ?_⟩
  have := hc j u hu
  rw [hb.cell (World.block_lt_of_cell? w _ this)]
  exact this

/-- Behind a world whose old blocks stand: all old cells and marks. -/
theorem bcell {B : Nat} {W w1 : World} (hb : Below B W w1) : (∀ b o, b < B → w1.cell? ⟨b, o, none⟩ = W.cell? ⟨b, o, none⟩) ∧ (∀ b o, b < B → w1.frozen? ⟨b, o, none⟩ = W.frozen? ⟨b, o, none⟩) :=
  ⟨fun b o h => hb.cell (p := ⟨b, o, none⟩) h, fun b o h => hb.frozen (p := ⟨b, o, none⟩) h⟩

theorem bto {a b c : World} (h : Below a.heap.size a b) (k : Below b.heap.size b c) : Below a.heap.size a c :=
  h.trans (k.mono h.size)

/-- A reading of integers, as a list of integers. -/
def Ints (w : World) (v : Value) (xs : List Int) : Prop := Reads w 1 v xs.length (xs.map I)

theorem Ints.below {w w' : World} {v : Value} {xs : List Int} (h : Ints w v xs) (hb : Below w.heap.size w w') : Ints w' v xs := Reads.below h hb

/-- What an 'Ints' gives: the slice's form, and each cell. -/
theorem Ints.open_ {w : World} {v : Value} {xs : List Int} (h : Ints w v xs) :
    ∃ A c, v = .slice A xs.length c ∧ xs.length ≤ c ∧ c ≤ 9223372036854775807 ∧ (0 < xs.length → ∃ b o, A = some ⟨b, o, none⟩ ∧ b < w.heap.size ∧ ∀ j (hj : j < xs.length), w.cell? ⟨b, o + j, none⟩ = some (I xs[j])) := by
  obtain ⟨h1, A, c, h2, h3, h4, h5⟩ := h
  refine ⟨A, c, h2, h3, h4, fun hn => ?_⟩
  obtain ⟨b, o, h6, h7⟩ := h5 hn
  have hc : ∀ j (hj : j < xs.length), w.cell? ⟨b, o + j, none⟩ = some (I xs[j]) := fun j hj => h7 j _ (by simp [List.getElem?_eq_getElem hj])
  exact ⟨b, o, h6, World.block_lt_of_cell? w _ (hc 0 hn), hc⟩

def Pt.cells (p : Pt) : List Value := [I p.lo, I p.hi, I p.cost]
def ptCells (ps : List Pt) : List Value := ps.flatMap Pt.cells
theorem ptCells_length (ps : List Pt) : (ptCells ps).length = ps.length * 3 := by
  induction ps with
  | nil => rfl
  | cons p ps ih => simp [ptCells, Pt.cells] at ih ⊢; omega
theorem ptCells_at : ∀ (ps : List Pt) (i : Nat) (h : i < ps.length), (ptCells ps)[i * 3]? = some (I ps[i].lo) ∧ (ptCells ps)[i * 3 + 1]? = some (I ps[i].hi) ∧ (ptCells ps)[i * 3 + 2]? = some (I ps[i].cost)
  | [], i, h => absurd h (by simp)
  | p :: ps, 0, _ => ⟨rfl, rfl, rfl⟩
  | p :: ps, i + 1, h => by
    have := ptCells_at ps i (by simpa using h)
    have e : ptCells (p :: ps) = I p.lo :: I p.hi :: I p.cost :: ptCells ps := rfl
    rw [e, show (i + 1) * 3 = i * 3 + 3 from by omega]
    simpa using this

def Pts (w : World) (v : Value) (ps : List Pt) : Prop := Reads w 3 v ps.length (ptCells ps)
theorem Pts.below {w w' : World} {v : Value} {ps : List Pt} (h : Pts w v ps) (hb : Below w.heap.size w w') : Pts w' v ps := Reads.below h hb
theorem Pts.open_ {w : World} {v : Value} {ps : List Pt} (h : Pts w v ps) :
    ∃ A c, v = .slice A ps.length c ∧ ps.length ≤ c ∧ c ≤ 9223372036854775807 ∧ (0 < ps.length → ∃ b o, A = some ⟨b, o, none⟩ ∧ b < w.heap.size ∧
      ∀ j (hj : j < ps.length), w.cell? ⟨b, o + j * 3, none⟩ = some (I ps[j].lo) ∧ w.cell? ⟨b, o + j * 3 + 1, none⟩ = some (I ps[j].hi) ∧ w.cell? ⟨b, o + j * 3 + 2, none⟩ = some (I ps[j].cost)) := by
  obtain ⟨h1, A, c, h2, h3, h4, h5⟩ := h
  refine ⟨A, c, h2, h3, h4, fun hn => ?_⟩
  obtain ⟨b, o, h6, h7⟩ := h5 hn
  have hc : ∀ j (hj : j < ps.length), w.cell? ⟨b, o + j * 3, none⟩ = some (I ps[j].lo) ∧ w.cell? ⟨b, o + j * 3 + 1, none⟩ = some (I ps[j].hi) ∧ w.cell? ⟨b, o + j * 3 + 2, none⟩ = some (I ps[j].cost) := fun j hj => by
    obtain ⟨e1, e2, e3⟩ := ptCells_at ps j hj
    exact ⟨h7 _ _ e1, by have := h7 _ _ e2; simpa [Nat.add_assoc] using this, by have := h7 _ _ e3; simpa [Nat.add_assoc] using this⟩
  exact ⟨b, o, h6, World.block_lt_of_cell? w _ (hc 0 hn).1, hc⟩

def LineAt (w : World) (v : Value) (d : DLine) : Prop := ∃ pv ov, v = .agg #[pv, ov] ∧ Pts w pv d.pts ∧ Ints w ov d.odds
theorem LineAt.below {w w' : World} {v : Value} {d : DLine} (h : LineAt w v d) (hb : Below w.heap.size w w') : LineAt w' v d := by
  obtain ⟨pv, ov, h1, h2, h3⟩ := h
  exact ⟨pv, ov, h1, h2.below hb, h3.below hb⟩

/-- The call returns some natural number, and the world is as it was, but for new blocks. -/
def RetNat (w : World) (e : Ending) (w' : World) : Prop := ∃ k : Nat, e = .returned (I k) ∧ Below w.heap.size w w'
theorem ret_int {k : IntKind} {a b : Int} (h : a = b) : Ending.returned (.int k a) = .returned (.int k b) := by rw [h]

theorem box_cell (w : World) (cs : Array Value) (T : TypeId) (i : Nat) {v : Value} (h : cs[i]? = some v) : (w.alloc (.cells cs T)).cell? ⟨w.heap.size, i, none⟩ = some v := by
  simpa [go_sem] using h
theorem box_old (w : World) (ob : Obj) {b o : Nat} {v : Value} (h : w.cell? ⟨b, o, none⟩ = some v) : (w.alloc ob).cell? ⟨b, o, none⟩ = some v := by
  rw [World.cell?_alloc_lt w ob _ (World.block_lt_of_cell? w _ h)]; exact h

/-- A region that draws its order, whose operations only read and whose callees leave what was there as it was: walked once, in the text's order; behind it the world is a letter. -/
theorem wp_region_ext {P : Program} {id : Nat} {Q : Exit → Act → World → Prop} {a : Act} {w : World} {l : List Oper} (hm : P.follows .mixedOrders = true) (hB : Region.lexB .any l.toArray = true)
    (h : wpQuiet P l.toArray (fun w' => ∃ p : Regrown, w' = Go.Sort.grow (redrawn w p.d) p.os) (fun a' => ∀ w', Below w.heap.size w w' → Q .normal a' w') l a) : (Code.region id l.toArray true).wp P Q a w :=
  wp_region_quiet (C := fun w' => ∃ p : Regrown, w' = Go.Sort.grow (redrawn w p.d) p.os) hm hB ⟨⟨w.drawn + 1, #[]⟩, by rw [Go.Sort.grow_empty]; rfl⟩
    (by
      have key : ∀ (rest : List Oper) (a : Act), wpQuiet P l.toArray (fun w' => ∃ p : Regrown, w' = Go.Sort.grow (redrawn w p.d) p.os) (fun a' => ∀ w', Below w.heap.size w w' → Q .normal a' w') rest a →
          wpQuiet P l.toArray (fun w' => ∃ p : Regrown, w' = Go.Sort.grow (redrawn w p.d) p.os) (fun a' => ∀ w', (∃ p : Regrown, w' = Go.Sort.grow (redrawn w p.d) p.os) → Q .normal a' w') rest a := by
        intro rest
        induction rest with
        | nil => intro a h w' ⟨p, hp⟩; exact h w' (hp ▸ below_regrown w p.d p.os)
        | cons o rest ih =>
          intro a h
          unfold wpQuiet at h ⊢
          split
          · rename_i hw
            rw [if_pos hw] at h
            exact Oper.quiet_mono (fun a h => ih a h) h
          · rename_i hw
            rw [if_neg hw] at h
            exact ih _ h
      simpa using key l a h)

/-- A contract, met in such a region. -/
theorem ext_call {P : Program} {f : FuncId} {args : Array Value} {w : World} {v : Value}
    (h : ∀ W, Below w.heap.size w W → Calls P f args W fun e w' => e = .returned v ∧ Below W.heap.size W w') :
    ∀ d os, Calls P f args (Go.Sort.grow (redrawn w d) os) fun e w'' => e = .returned v ∧ ∃ p : Regrown, w'' = Go.Sort.grow (redrawn w p.d) p.os :=
  fun d os => Calls.regrown_of (h _ (below_regrown w d os))

end Go.Proofs.Ytbddaemekgflmaa
