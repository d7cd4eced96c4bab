/- Readings of towns and bounds in memory. Plain; no conditions. -/
import Derived.Test.YtldcehhhndlhdaaGreatDoorC6
import Derived.Test.YtldcehhhndlhdaaGreatDoorC8
import Derived.Test.YtldcehhhndlhdaaGreatDoorC10
import Derived.RangeFuncNested
import Derived.RangeFuncBound
import Derived.RangeFuncCalls
import Derived.RangeFuncLeaves
import Derived.Test.YtldcehhhndlhdaaGreatDoorRows
import Derived.RangeFuncBox
import Derived.OwnWalkIn
import Derived.TacticsInMore
import Derived.LoopNIn
import Derived.LoopIn
import Derived.Shelf.Abstract
import Derived.Test.YtldcehhhndlhdaaGreatDoorC7
import Derived.OrdersIn
import Derived.TacticsIn
import Derived.Laws.StructEq
namespace Go.Proofs.YtldcehhhndlhdaaGreatDoor
open Go.RowKit

theorem grown_trans' {a b c : World} {row : Option Nat} (h : a.grownBy b row) (k : b.grownBy c row) : a.grownBy c row :=
  ⟨k.os.trans h.os, k.tape.trans h.tape, k.output.trans h.output, Nat.le_trans h.size k.size, fun i hi hne => (k.block i (Nat.lt_of_lt_of_le hi h.size) hne).trans (h.block i hi hne)⟩

/-! Soundings, slopes, spans, towns. -/
def sndCells (ss : List Snd) : List Value := ss.flatMap fun s => [I s.well, I s.low, I s.high]
def slpCells (ss : List Slp) : List Value := ss.flatMap fun s => [I s.a, I s.b, I s.low, I s.high]
def spCells (ss : List Sp) : List Value := ss.flatMap fun s => [I s.low, I s.high]
theorem sndCells_len (ss : List Snd) : (sndCells ss).length = ss.length * 3 := by
  induction ss with
  | nil => rfl
  | cons p ps ih => simp [sndCells] at ih ⊢; omega
theorem slpCells_len (ss : List Slp) : (slpCells ss).length = ss.length * 4 := by
  induction ss with
  | nil => rfl
  | cons p ps ih => simp [slpCells] at ih ⊢; omega
theorem spCells_len (ss : List Sp) : (spCells ss).length = ss.length * 2 := by
  induction ss with
  | nil => rfl
  | cons p ps ih => simp [spCells] at ih ⊢; omega
theorem sndCells_at : ∀ (ss : List Snd) (i : Nat) (h : i < ss.length), (sndCells ss)[i * 3]? = some (I ss[i].well) ∧ (sndCells ss)[i * 3 + 1]? = some (I ss[i].low) ∧ (sndCells ss)[i * 3 + 2]? = some (I ss[i].high)
  | [], i, h => absurd h (by simp)
  | s :: ss, 0, _ => ⟨rfl, rfl, rfl⟩
  | s :: ss, i + 1, h => by
    have := sndCells_at ss i (by simpa using h)
    have e : sndCells (s :: ss) = I s.well :: I s.low :: I s.high :: sndCells ss := rfl
    rw [e, show (i + 1) * 3 = i * 3 + 3 from by omega]
    simpa using this
theorem slpCells_at : ∀ (ss : List Slp) (i : Nat) (h : i < ss.length), (slpCells ss)[i * 4]? = some (I ss[i].a) ∧ (slpCells ss)[i * 4 + 1]? = some (I ss[i].b) ∧ (slpCells ss)[i * 4 + 2]? = some (I ss[i].low) ∧ (slpCells ss)[i * 4 + 3]? = some (I ss[i].high)
  | [], i, h => absurd h (by simp)
  | s :: ss, 0, _ => ⟨rfl, rfl, rfl, rfl⟩
  | s :: ss, i + 1, h => by
    have := slpCells_at ss i (by simpa using h)
    have e : slpCells (s :: ss) = I s.a :: I s.b :: I s.low :: I s.high :: slpCells ss := rfl
    rw [e, show (i + 1) * 4 = i * 4 + 4 from by omega]
    simpa using this
theorem spCells_at : ∀ (ss : List Sp) (i : Nat) (h : i < ss.length), (spCells ss)[i * 2]? = some (I ss[i].low) ∧ (spCells ss)[i * 2 + 1]? = some (I ss[i].high)
  | [], i, h => absurd h (by simp)
  | s :: ss, 0, _ => ⟨rfl, rfl⟩
  | s :: ss, i + 1, h => by
    have := spCells_at ss i (by simpa using h)
    have e : spCells (s :: ss) = I s.low :: I s.high :: spCells ss := rfl
    rw [e, show (i + 1) * 2 = i * 2 + 2 from by omega]
    simpa using this
def Snds (w : World) (v : Value) (ss : List Snd) : Prop := Reads w 3 v ss.length (sndCells ss)
def Slps (w : World) (v : Value) (ss : List Slp) : Prop := Reads w 4 v ss.length (slpCells ss)
def Sps (w : World) (v : Value) (ss : List Sp) : Prop := Reads w 2 v ss.length (spCells ss)
theorem Snds.below {w w' : World} {v : Value} {ss : List Snd} (h : Snds w v ss) (hb : Below w.heap.size w w') : Snds w' v ss := Reads.below h hb
theorem Slps.below {w w' : World} {v : Value} {ss : List Slp} (h : Slps w v ss) (hb : Below w.heap.size w w') : Slps w' v ss := Reads.below h hb
theorem Sps.below {w w' : World} {v : Value} {ss : List Sp} (h : Sps w v ss) (hb : Below w.heap.size w w') : Sps w' v ss := Reads.below h hb
theorem Snds.open_ {w : World} {v : Value} {ss : List Snd} (h : Snds w v ss) :
    ∃ A c, v = .slice A ss.length c ∧ ss.length ≤ c ∧ c ≤ 9223372036854775807 ∧ (0 < ss.length → ∃ b o, A = some ⟨b, o, none⟩ ∧ b < w.heap.size ∧
      ∀ j (hj : j < ss.length), w.cell? ⟨b, o + j * 3, none⟩ = some (I ss[j].well) ∧ w.cell? ⟨b, o + j * 3 + 1, none⟩ = some (I ss[j].low) ∧ w.cell? ⟨b, o + j * 3 + 2, none⟩ = some (I ss[j].high)) := by
  obtain ⟨h1, A, c, h2, h3, h4, h5⟩ := h
  refine ⟨A, c, h2, h3, h4, fun hn => ?_⟩
  obtain ⟨b, o, h6, h7⟩ := h5 hn
  have hc : ∀ j (hj : j < ss.length), w.cell? ⟨b, o + j * 3, none⟩ = some (I ss[j].well) ∧ w.cell? ⟨b, o + j * 3 + 1, none⟩ = some (I ss[j].low) ∧ w.cell? ⟨b, o + j * 3 + 2, none⟩ = some (I ss[j].high) := fun j hj => by
    obtain ⟨e1, e2, e3⟩ := sndCells_at ss j hj
    exact ⟨h7 _ _ e1, by have := h7 _ _ e2; simpa [Nat.add_assoc] using this, by have := h7 _ _ e3; simpa [Nat.add_assoc] using this⟩
  exact ⟨b, o, h6, World.block_lt_of_cell? w _ (hc 0 hn).1, hc⟩
theorem Slps.open_ {w : World} {v : Value} {ss : List Slp} (h : Slps w v ss) :
    ∃ A c, v = .slice A ss.length c ∧ ss.length ≤ c ∧ c ≤ 9223372036854775807 ∧ (0 < ss.length → ∃ b o, A = some ⟨b, o, none⟩ ∧ b < w.heap.size ∧
      ∀ j (hj : j < ss.length), w.cell? ⟨b, o + j * 4, none⟩ = some (I ss[j].a) ∧ w.cell? ⟨b, o + j * 4 + 1, none⟩ = some (I ss[j].b) ∧ w.cell? ⟨b, o + j * 4 + 2, none⟩ = some (I ss[j].low) ∧ w.cell? ⟨b, o + j * 4 + 3, none⟩ = some (I ss[j].high)) := by
  obtain ⟨h1, A, c, h2, h3, h4, h5⟩ := h
  refine ⟨A, c, h2, h3, h4, fun hn => ?_⟩
  obtain ⟨b, o, h6, h7⟩ := h5 hn
  have hc : ∀ j (hj : j < ss.length), w.cell? ⟨b, o + j * 4, none⟩ = some (I ss[j].a) ∧ w.cell? ⟨b, o + j * 4 + 1, none⟩ = some (I ss[j].b) ∧ w.cell? ⟨b, o + j * 4 + 2, none⟩ = some (I ss[j].low) ∧ w.cell? ⟨b, o + j * 4 + 3, none⟩ = some (I ss[j].high) := fun j hj => by
    obtain ⟨e1, e2, e3, e4⟩ := slpCells_at ss j hj
    exact ⟨h7 _ _ e1, by have := h7 _ _ e2; simpa [Nat.add_assoc] using this, by have := h7 _ _ e3; simpa [Nat.add_assoc] using this, by have := h7 _ _ e4; simpa [Nat.add_assoc] using this⟩
  exact ⟨b, o, h6, World.block_lt_of_cell? w _ (hc 0 hn).1, hc⟩
theorem Sps.open_ {w : World} {v : Value} {ss : List Sp} (h : Sps w v ss) :
    ∃ A c, v = .slice A ss.length c ∧ ss.length ≤ c ∧ c ≤ 9223372036854775807 ∧ (0 < ss.length → ∃ b o, A = some ⟨b, o, none⟩ ∧ b < w.heap.size ∧
      ∀ j (hj : j < ss.length), w.cell? ⟨b, o + j * 2, none⟩ = some (I ss[j].low) ∧ w.cell? ⟨b, o + j * 2 + 1, none⟩ = some (I ss[j].high)) := by
  obtain ⟨h1, A, c, h2, h3, h4, h5⟩ := h
  refine ⟨A, c, h2, h3, h4, fun hn => ?_⟩
  obtain ⟨b, o, h6, h7⟩ := h5 hn
  have hc : ∀ j (hj : j < ss.length), w.cell? ⟨b, o + j * 2, none⟩ = some (I ss[j].low) ∧ w.cell? ⟨b, o + j * 2 + 1, none⟩ = some (I ss[j].high) := fun j hj => by
    obtain ⟨e1, e2⟩ := spCells_at ss j hj
    exact ⟨h7 _ _ e1, by have := h7 _ _ e2; simpa [Nat.add_assoc] using this⟩
  exact ⟨b, o, h6, World.block_lt_of_cell? w _ (hc 0 hn).1, hc⟩
/-- A town's value, and the value itself. -/
def TwnAt (w : World) (v : Value) (t : Twn) : Prop := ∃ sv pv, v = .agg #[I t.wells, sv, pv] ∧ Snds w sv t.snd ∧ Slps w pv t.slp
theorem TwnAt.below {w w' : World} {v : Value} {t : Twn} (h : TwnAt w v t) (hb : Below w.heap.size w w') : TwnAt w' v t := by
  obtain ⟨sv, pv, h1, h2, h3⟩ := h
  exact ⟨sv, pv, h1, h2.below hb, h3.below hb⟩
abbrev Snd.val (s : Snd) : Value := .agg #[I s.well, I s.low, I s.high]
abbrev Slp.val (s : Slp) : Value := .agg #[I s.a, I s.b, I s.low, I s.high]
abbrev Sp.val (s : Sp) : Value := .agg #[I s.low, I s.high]
abbrev unitV : Value := .tuple #[]
end Go.Proofs.YtldcehhhndlhdaaGreatDoor
/- Walks: leave, sound, slope, span. -/
namespace Go.Proofs.YtldcehhhndlhdaaGreatDoor
open Go.RowKit Go.Sort

/-- What is known of the bounds behind a world. -/
theorem mat_step {w w1 w2 : World} {B : Nat} (h : w.grownBy w1 (some B)) (k : w1.grownBy w2 (some B)) : w.grownBy w2 (some B) := grown_trans' h k

end Go.Proofs.YtldcehhhndlhdaaGreatDoor
/- Walks: rock. -/
namespace Go.Proofs.YtldcehhhndlhdaaGreatDoor
open Go.RowKit Go.Sort

theorem below_grown {n B : Nat} {a b c : World} (h : Below n a b) (hg : b.grownBy c (some B)) (hB : n ≤ B) (hn : n ≤ b.heap.size) : Below n a c :=
  h.trans ⟨hg.os, hg.tape, hg.output, hg.size, fun k hk => hg.block k (by omega) (fun e => by injection e with e; omega)⟩
/-- The bounds while the diagonal is left out. -/
def rock0To (n : Nat) : List Int := (List.range 49).map fun p => if p < n ∧ p / 7 ≠ p % 7 then 1048576 else 0
theorem rock0To_len (n : Nat) : (rock0To n).length = 49 := by simp [rock0To]
theorem rock0To_all : rock0To 49 = rock0 := by decide +kernel
theorem rock0To_zero : rock0To 0 = List.replicate 49 0 := by decide +kernel
theorem rock0To_ne {i k : Nat} (hk : k < 7) (h : i ≠ k) : (rock0To (7 * i + k)).set (7 * i + k) 1048576 = rock0To (7 * i + (k + 1)) := by
  apply List.ext_getElem
  · simp [rock0To]
  · intro p h1 h2
    rw [List.getElem_set]
    simp only [rock0To, List.getElem_map, List.getElem_range]
    split
    · rename_i e
      rw [if_pos (by omega)]
    · rename_i e
      by_cases hc : p < 7 * i + k ∧ p / 7 ≠ p % 7
      · rw [if_pos hc, if_pos (by omega)]
      · rw [if_neg hc, if_neg (by omega)]
theorem rock0To_eq (i : Nat) (h : i < 7) : rock0To (7 * i + (i + 1)) = rock0To (7 * i + i) := by
  apply List.ext_getElem
  · simp [rock0To]
  · intro p h1 h2
    simp only [rock0To, List.getElem_map, List.getElem_range]
    by_cases hc : p < 7 * i + i ∧ p / 7 ≠ p % 7
    · rw [if_pos hc, if_pos (by omega)]
    · rw [if_neg hc, if_neg (by omega)]

end Go.Proofs.YtldcehhhndlhdaaGreatDoor
/- Walks: close. -/
namespace Go.Proofs.YtldcehhhndlhdaaGreatDoor
open Go.RowKit Go.Sort

theorem diagOk_of {ms : List Int} (h : ∀ i, i < 7 → 0 ≤ at_ ms i i) : diagOk ms = true := diagOk_iff.2 h
theorem diagOk_not {ms : List Int} {i : Nat} (hi : i < 7) (h : at_ ms i i < 0) : diagOk ms = false := by
  rw [Bool.eq_false_iff]
  intro hk
  have := diagOk_iff.1 hk i hi
  omega
theorem grown_refl (w : World) (row : Option Nat) : w.grownBy w row := ⟨rfl, rfl, rfl, Nat.le_refl _, fun _ _ _ => rfl⟩

end Go.Proofs.YtldcehhhndlhdaaGreatDoor
/- Walks: within, isWell; the same of the reference; Check of both; ask. -/
namespace Go.Proofs.YtldcehhhndlhdaaGreatDoor
open Go.RowKit Go.Sort

set_option maxRecDepth 20000 in
set_option maxHeartbeats 400000 in
theorem rWithin_any (n lo hi : Int) (w : World) :
    Calls Tryz.prog 46 #[I n, I lo, I hi] w fun e w' => e = .returned (.bool (inR n lo hi)) ∧ w = w' := by
  by_cases h1 : lo ≤ n
  · by_cases h2 : n ≤ hi
    · go_enter Tryz.func46, Tryz.ntmps46
      go_wp2
      go_ret
      exact ⟨by simp [inR, *], rfl⟩
    · go_enter Tryz.func46, Tryz.ntmps46
      go_wp2
      go_ret
      exact ⟨by simp [inR, *], rfl⟩
  · go_enter Tryz.func46, Tryz.ntmps46
    go_wp2
    go_ret
    exact ⟨by simp [inR]; omega, rfl⟩

/-- isWell, at whatever number of wells. -/
def isWellW (W n : Int) : Bool := inR n 0 (wrap64 (W - 1))
theorem isWellW_eq {W n : Int} (h : 0 ≤ W) (h6 : W ≤ 1000) : isWellW W n = isWell W n := by unfold isWellW isWell; rw [IntWalk.wrap64_in _ (by omega)]
theorem chk_badSnd {t : Twn} (h : t.snd.any (badSnd t.wells) = true) : chk t = 10 := by simp only [chk]; rw [if_neg (by simp [valid, h])]
theorem chk_badSlp {t : Twn} (h : t.slp.any (badSlp t.wells) = true) : chk t = 10 := by simp only [chk]; rw [if_neg (by simp [valid, h])]
theorem any_snoc {α : Type} (p : α → Bool) (l : List α) (k : Nat) (h : k < l.length) : (l.take (k + 1)).any p = ((l.take k).any p || p l[k]) := by
  rw [List.take_succ_eq_append_getElem h, List.any_append]; simp
theorem any_mem {α : Type} (p : α → Bool) (l : List α) (k : Nat) (h : k < l.length) (hb : p l[k] = true) : l.any p = true := List.any_eq_true.2 ⟨_, List.getElem_mem h, hb⟩
end Go.Proofs.YtldcehhhndlhdaaGreatDoor
/- Layer 1: some of the words of a town. No program here. -/
namespace Go.Proofs.YtldcehhhndlhdaaGreatDoor
def subL {α : Type} (is : Nat → Bool) : Nat → List α → List α
  | _, [] => []
  | i, x :: l => if is i then x :: subL is (i + 1) l else subL is (i + 1) l
def sub (t : Twn) (is : Nat → Bool) : Twn := ⟨t.wells, subL is 0 t.snd, subL is t.snd.length t.slp⟩
theorem subL_all {α : Type} (is : Nat → Bool) (h : ∀ i, is i = true) : ∀ (i : Nat) (l : List α), subL is i l = l
  | _, [] => rfl
  | i, x :: l => by rw [subL, if_pos (h i), subL_all is h]
theorem sub_all (t : Twn) : sub t (fun _ => true) = t := by simp [sub, subL_all]
theorem subL_snoc {α : Type} (is : Nat → Bool) : ∀ (l : List α) (i k : Nat) (h : k < l.length), subL is i (l.take (k + 1)) = subL is i (l.take k) ++ (if is (i + k) then [l[k]] else [])
  | [], _, _, h => absurd h (by simp)
  | x :: l, i, 0, _ => by simp [subL]
  | x :: l, i, k + 1, h => by
    have := subL_snoc is l (i + 1) k (by simpa using h)
    rw [List.take_succ_cons, List.take_succ_cons, subL, subL, this, show i + 1 + k = i + (k + 1) by omega]
    split <;> simp
theorem subL_sublist {α : Type} (is : Nat → Bool) : ∀ (i : Nat) (l : List α), (subL is i l).Sublist l
  | _, [] => .slnil
  | i, x :: l => by
    rw [subL]
    split
    · exact (subL_sublist is (i + 1) l).cons_cons x
    · exact (subL_sublist is (i + 1) l).cons x
theorem Vl.sub {t : Twn} (h : Vl t) (is : Nat → Bool) : Vl (sub t is) := by
  have s1 := subL_sublist is 0 t.snd
  have s2 := subL_sublist is t.snd.length t.slp
  exact ⟨h.w0, h.w6, fun s hs => h.snd s (s1.subset hs), fun s hs => h.slp s (s2.subset hs)⟩
/-- The bounds while the words are taken in. -/
def sndTo (t : Twn) (is : Nat → Bool) (k : Nat) : List Int := (subL is 0 (t.snd.take k)).foldl soundM (rock t.wells)
def slpTo (t : Twn) (is : Nat → Bool) (k : Nat) : List Int := (subL is t.snd.length (t.slp.take k)).foldl slopeM (sndTo t is t.snd.length)
theorem sndTo_succ {t : Twn} (is : Nat → Bool) {k : Nat} (h : k < t.snd.length) : sndTo t is (k + 1) = if is k then soundM (sndTo t is k) t.snd[k] else sndTo t is k := by
  rw [sndTo, subL_snoc is t.snd 0 k h, Nat.zero_add]
  split <;> simp [sndTo, List.foldl_append]
theorem slpTo_succ {t : Twn} (is : Nat → Bool) {k : Nat} (h : k < t.slp.length) : slpTo t is (k + 1) = if is (t.snd.length + k) then slopeM (slpTo t is k) t.slp[k] else slpTo t is k := by
  rw [slpTo, subL_snoc is t.slp t.snd.length k h]
  split <;> simp [slpTo, List.foldl_append]
theorem slpTo_all (t : Twn) (is : Nat → Bool) : slpTo t is t.slp.length = baseM (sub t is) := by simp [slpTo, sndTo, baseM, sub]
theorem sndTo_len (t : Twn) (is : Nat → Bool) (k : Nat) : (sndTo t is k).length = 49 := by rw [sndTo, sounds_len, rock_len]
theorem slpTo_len (t : Twn) (is : Nat → Bool) (k : Nat) : (slpTo t is k).length = 49 := by rw [slpTo, slopes_len, sndTo_len]
end Go.Proofs.YtldcehhhndlhdaaGreatDoor
/- Walks: said, with each function value that it is called with. -/
namespace Go.Proofs.YtldcehhhndlhdaaGreatDoor
open Go.RowKit Go.Sort

section
variable {w0 w w' : World} {n : Nat} {L : List Item}
end
end Go.Proofs.YtldcehhhndlhdaaGreatDoor
/- Walks: all, words, open, Level, Differ, Higher. -/
namespace Go.Proofs.YtldcehhhndlhdaaGreatDoor
open Go.RowKit Go.Sort

def openE (t : Twn) (is : Bool) : Int := if valid t then (if is then (if diagOk (closeM (baseM t)) then 0 else 3) else 1) else 10
theorem openE_zero' {t : Twn} {is : Bool} (h : openE t is = 0) : valid t = true ∧ is = true ∧ diagOk (closeM (baseM t)) = true := by
  unfold openE at h
  split at h
  · rename_i h1
    split at h
    · rename_i h2
      split at h
      · rename_i h3
        exact ⟨h1, h2, h3⟩
      · omega
    · omega
  · omega
theorem openE_zero {t : Twn} {is : Bool} (h : openE t is = 0) : Vl t ∧ is = true ∧ diagOk (closeM (baseM t)) = true := ⟨valid_vl (openE_zero' h).1, (openE_zero' h).2⟩
end Go.Proofs.YtldcehhhndlhdaaGreatDoor
/- Walks: Level, Differ, Higher. -/
namespace Go.Proofs.YtldcehhhndlhdaaGreatDoor
open Go.RowKit Go.Sort

def levelP (t : Twn) (well : Int) : Sp × Int := if openE t (isWell t.wells well) = 0 then (⟨-at_ (closeM (baseM t)) well.toNat 6, at_ (closeM (baseM t)) 6 well.toNat⟩, 0) else (⟨0, 0⟩, openE t (isWell t.wells well))
def differP (t : Twn) (a b : Int) : Sp × Int := if openE t (isWell t.wells a && isWell t.wells b) = 0 then (⟨-at_ (closeM (baseM t)) b.toNat a.toNat, at_ (closeM (baseM t)) a.toNat b.toNat⟩, 0) else (⟨0, 0⟩, openE t (isWell t.wells a && isWell t.wells b))
theorem open_tight {t : Twn} {is : Bool} (h : openE t is = 0) : Tight t (closeM (baseM t)) := by
  obtain ⟨hv, -, hd⟩ := openE_zero h
  exact (says_ok hv (baseM_says hv)).2 hd
theorem open_bd {t : Twn} {is : Bool} (h : openE t is = 0) {i j : Nat} (hi : act t.wells i) (hj : act t.wells j) : -9000000000 ≤ at_ (closeM (baseM t)) i j ∧ at_ (closeM (baseM t)) i j ≤ 9000000000 := by
  have := (open_tight h).fin i j hi hj
  omega
theorem act_well {W n : Int} (h : isWell W n = true) : act W n.toNat := by
  have := isWell_iff.1 h
  exact .inl (by omega)
theorem closeBase_len (t : Twn) : (closeM (baseM t)).length = 49 := by rw [closeM_len, baseM_len]

end Go.Proofs.YtldcehhhndlhdaaGreatDoor
/- A range over a function whose iterator tells of each thing that it yields what is so in the world in which it yields it (R), and that may ask of the caller's invariant what it needs (C). No function here; no conditions. -/
namespace Go.Proofs.YtldcehhhndlhdaaGreatDoor
open Go.RowKit

/-- What an iterator keeps, told of each round what it yields. -/
def SeqR {α : Type} (F : Fence) (n : Nat) (P : Program) (g : Nat) (lb : Array Value) (encs : α → Array Value) (Kp : World → World → Prop) (S Sp : List α → Prop) (C : (List α → World → Prop) → Prop) (R : List α → α → World → Prop) (w : World) : Prop :=
  ∀ (l : Nat) (J Jx : List α → World → Prop) (W : World), Below w.heap.size w W → AbidesFrom W.heap.size J → AbidesFrom W.heap.size Jx → C J →
    (∀ pre x W1, J pre W1 → R pre x W1 → YieldAt F (n - 1) P l (encs x) W1 fun e W' =>
      (e = .returned (.bool true) ∧ J (pre ++ [x]) W' ∧ Kp W1 W') ∨ (e = .returned (.bool false) ∧ Jx (pre ++ [x]) W')) →
    J [] W →
    CallsIn F n P g (#[.func (.yield l) #[] #[]] ++ lb) W fun e W' => (∃ v, e = .returned v) ∧ ((∃ xs, S xs ∧ J xs W') ∨ (∃ pre, Sp pre ∧ Jx pre W'))

variable {F : Fence} {n : Nat} {P : Program}
theorem wpIn_rangeFunc_R {α : Type} {g : Operand} {ps : Array Tmp} {assign body : Code} {Q : Exit → Act → World → Prop} {a : Act} {w : World}
    (hro : F.round = none) (h1 : 1 ≤ n) {gf : Nat} {lb : Array Value} (hg : a.eval g = .func (.func gf) #[] lb) (hFg : F.fn gf) (eg : ∀ args w, (callFunc gf args).run P w = .ok (.enter gf args) w)
    {encs : α → Array Value} {Kp : World → World → Prop} {S Sp : List α → Prop} {C : (List α → World → Prop) → Prop} {R : List α → α → World → Prop} {w0 : World} (hseq : SeqR F (n - 1) P gf lb encs Kp S Sp C R w0)
    (hKt : ∀ {A B C : World}, Kp A B → Kp B C → Kp A C) (hKb : ∀ (W : World) (l : Nat) (o o' : Obj), w.heap.size ≤ l → W.heap[l]? = some o → o.isCells = false → o.isWalk = false → Kp W (W.putObj l o')) (hb0 : Below w0.heap.size w0 w) (hps : ∀ x, (encs x).size = ps.size)
    (I : List α → World → Prop) (Ix : Code → List α → World → Prop) (hI : OwnFrom w.heap.size I) (hIx : ∀ c, OwnFrom w.heap.size (Ix c)) (hC : ∀ J : List α → World → Prop, (∀ pre W, J pre W → I pre W) → C J) (h0 : I [] w) (Ax : List α → α → Act → World → Prop) (hAx : ∀ pre x a', OwnFrom w.heap.size (fun (_ : Unit) W => Ax pre x a' W))
    (hassign : ∀ (l : Nat) (pre : List α) (x : α) (W : World) (K : Act → World → Prop), I pre W → R pre x W → (∀ a' W', KeepsFrom w.heap.size W W' → Kp W W' → I pre W' → Ax pre x a' W' → K a' W') →
      assign.wpIn (F.inRound l) (n - 1 - 1) P (Exit.then K (fun _ _ _ => False)) { tmps := (ps.zip (encs x)).foldl (fun t (p, v) => t.setIfInBounds p v) a.tmps, defers := [] } W)
    (hbody : ∀ (l : Nat) (pre : List α) (x : α) (a' : Act) (W : World), w.heap.size ≤ l → (∃ r, W.heap[l]? = some (.loop r)) → I pre W → Ax pre x a' W → body.wpIn (F.inRound l) (n - 1 - 1) P (ownPostG w.heap.size Kp I Ix (pre ++ [x]) W) a' W)
    (hdone : ∀ (D : Nat) (xs : List α) (W : World), w.heap.size ≤ D → S xs → I xs W → W.heap[D]? = some (.deferred (some [])) → Q .normal { a with defers := { target := .collected D, args := #[] } :: a.defers } W)
    (hstop : ∀ (D : Nat) (c : Code) (pre : List α) (W : World), w.heap.size ≤ D → Sp pre → Ix c pre W → W.heap[D]? = some (.deferred (some [])) → c.wpIn F n P Q { a with defers := { target := .collected D, args := #[] } :: a.defers } W) :
    (Code.rangeFunc g ps assign body).wpIn F n P Q a w := by
  refine wpIn_rangeFunc fun fn hfn => ?_
  rw [hro]
  obtain ⟨D, hD⟩ : ∃ D, w.heap.size = D := ⟨_, rfl⟩
  obtain ⟨rec, hrec⟩ : ∃ rec : LoopState → Option Code → Loop, rec = fun st pe => { state := st, pending := pe, fn, tmps := a.tmps, params := ps, assign, body, defers := D } := ⟨_, rfl⟩
  obtain ⟨W1, hW1⟩ : ∃ W1, (w.alloc (.deferred (some []))).alloc (.loop (rec .ready none)) = W1 := ⟨_, rfl⟩
  have hsz1 : W1.heap.size = D + 2 := by rw [← hW1, ← hD]; simp
  have hL1 : W1.heap[D + 1]? = some (.loop (rec .ready none)) := by
    have := World.alloc_heap_new (w.alloc (.deferred (some []))) (.loop (rec .ready none))
    rwa [World.size_alloc, hW1, hD] at this
  have hK1 : W1.heap[D]? = some (.deferred (some [])) := by
    rw [← hW1, ← hD]
    exact (Below.heap_alloc _ _ _ (by simp)).trans (World.alloc_heap_new w _)
  have hI1 : I [] W1 := by rw [← hW1]; exact hI.alloc _ (hI.alloc _ h0)
  have hb1 : Below w0.heap.size w0 W1 := by
    rw [← hW1]
    exact hb0.trans ((((Below.refl _ w).alloc (Nat.le_refl _) _).alloc (by simp) _).mono hb0.size)
  rw [hD] at hI hIx hAx hbody hassign hKb hdone hstop
  refine ⟨D + 1, [{ target := .collected D, args := #[] }], W1, { target := .fn (.func gf) lb, args := #[.func (.yield (D + 1)) #[] #[]] }, W1, gf,
    #[.func (.yield (D + 1)) #[] #[]] ++ lb, W1, ?_, ?_, ?_, ?_, fun _ => h1, ?_⟩
  · rw [← hW1, hrec, ← hD]; exact run_enterLoop_outer _ _ _ _ _
  · simp only [resolve, hg]
    simp [go_sem]
  · intro f' hf'; simp [Target.leads] at hf'; subst hf'; exact hFg
  · simp [invoke, go_sem, eg]
  · have hab : ∀ {A : World} {row : Option Nat}, (∀ r, row = some r → W1.heap.size ≤ r ∧ ∃ o : Obj, A.heap[r]? = some o ∧ o.isWalk = true) → (∀ r, row = some r → D ≤ r ∧ ∃ o : Obj, A.heap[r]? = some o ∧ o.isCells = false) :=
      fun hr r e => by
        obtain ⟨hB, o, ho, hw⟩ := hr r e
        exact ⟨by omega, o, ho, Obj.not_cells_of_walk hw⟩
    refine (hseq (D + 1)
      (fun pre W => I pre W ∧ W.heap[D + 1]? = some (.loop (rec .ready none)) ∧ W.heap[D]? = some (.deferred (some [])))
      (fun pre W => ∃ c, Ix c pre W ∧ W.heap[D + 1]? = some (.loop (rec .done (some c))) ∧ W.heap[D]? = some (.deferred (some [])))
      W1 hb1
      (fun s A B row hs hg' hr => ⟨hI s A B row hs.1 hg' (hab hr), (grownBy_keeps hg' (fun r e => (hr r e).2) hs.2.1 rfl).trans hs.2.1, (grownBy_keeps hg' (fun r e => (hr r e).2) hs.2.2 rfl).trans hs.2.2⟩)
      (fun s A B row hs hg' hr => by
        obtain ⟨c, hc, hl, hk⟩ := hs
        exact ⟨c, hIx c s A B row hc hg' (hab hr), (grownBy_keeps hg' (fun r e => (hr r e).2) hl rfl).trans hl, (grownBy_keeps hg' (fun r e => (hr r e).2) hk rfl).trans hk⟩)
      (hC _ fun _ _ h => h.1) ?_ ⟨hI1, hL1, hK1⟩).mono ?_
    · rintro pre x W ⟨hi, hl, hk⟩ hR
      have hy := run_yield (P := P) (args := encs x) hl (by rw [hrec]; exact hps x)
      rw [hrec] at hy
      refine ⟨fn, _, assign, body, hy, roundIn_of_wpIn hfn (hassign _ pre x W _ hi hR ?_)⟩
      clear hy hR
      intro a' V hkf hkp hi' hax
      have hl' := hkf.same _ _ (by omega) hl rfl
      have hk' := hkf.same _ _ (Nat.le_refl _) hk rfl
      refine ⟨_, run_beginRound hl' (by rw [hrec]), ?_⟩
      have hlt : D + 1 < V.heap.size := (Array.getElem?_eq_some_iff.1 hl').1
      obtain ⟨V2, hV2⟩ : ∃ V2, V.putObj (D + 1) (.loop { rec .ready none with state := .busy }) = V2 := ⟨_, rfl⟩
      have hl2 : V2.heap[D + 1]? = some (.loop { rec .ready none with state := .busy }) := by rw [← hV2]; exact World.putObj_heap_same hlt
      have hk2 : V2.heap[D]? = some (.deferred (some [])) := by rw [← hV2]; exact (World.putObj_heap_other (by omega)).trans hk'
      have hw2 : Kp V V2 := by rw [← hV2]; exact hKb _ _ _ _ (by omega) hl' rfl rfl
      have hi2 : I pre V2 := by rw [← hV2]; exact hI.putObj _ hi' (by omega) hl' rfl
      have hax2 : Ax pre x a' V2 := by rw [← hV2]; exact (hAx pre x a').putObj (s := ()) _ hax (by omega) hl' rfl
      rw [hV2]
      refine wpIn_mono (hbody _ pre x a' _ (by omega) ⟨_, hl2⟩ hi2 hax2) ?_
      have fin : ∀ (jump : Option Code) (U : World), KeepsFrom D V2 U → ∃ U', (Instr.endRound (D + 1) jump).run P U = .ok (.bool jump.isNone) U' ∧
          (∀ (T : List α → World → Prop), OwnFrom D T → ∀ ys, T ys U → T ys U') ∧ Kp U U' ∧ U'.heap[D + 1]? = some (.loop (rec (if jump.isNone then .ready else .done) jump)) ∧ U'.heap[D]? = some (.deferred (some [])) := fun jump U hk3 => by
        have hl3 := hk3.same _ _ (by omega) hl2 rfl
        have hrun := run_endRound (P := P) jump hl3
        rw [hrec] at hrun
        refine ⟨_, hrun, fun T hT ys ht => hT.putObj _ ht (by omega) hl3 rfl, hKb _ _ _ _ (by omega) hl3 rfl rfl, ?_, ?_⟩
        · rw [hrec]; exact World.putObj_heap_same (Array.getElem?_eq_some_iff.1 hl3).1
        · exact (World.putObj_heap_other (by omega)).trans (hk3.same _ _ (Nat.le_refl _) hk2 rfl)
      rintro e a3 U hp
      cases e with
      | normal =>
        obtain ⟨hk3, hkp3, hi3⟩ := hp
        obtain ⟨U', hr, hT, hkp4, hl4, hk4⟩ := fin none U hk3
        exact ⟨_, U', hr, .inl ⟨rfl, ⟨hT _ hI _ hi3, hl4, hk4⟩, hKt hkp (hKt (hKt hw2 hkp3) hkp4)⟩⟩
      | ret =>
        obtain ⟨hk3, hi3⟩ := hp
        obtain ⟨U', hr, hT, _, hl4, hk4⟩ := fin (some .ret) U hk3
        exact ⟨_, U', hr, .inr ⟨rfl, .ret, hT _ (hIx _) _ hi3, hl4, hk4⟩⟩
      | exit id =>
        obtain ⟨hk3, hi3⟩ := hp
        obtain ⟨U', hr, hT, _, hl4, hk4⟩ := fin (some (.exit id)) U hk3
        exact ⟨_, U', hr, .inr ⟨rfl, .exit id, hT _ (hIx _) _ hi3, hl4, hk4⟩⟩
      | goto t =>
        obtain ⟨hk3, hi3⟩ := hp
        obtain ⟨U', hr, hT, _, hl4, hk4⟩ := fin (some (.goto t)) U hk3
        exact ⟨_, U', hr, .inr ⟨rfl, .goto t, hT _ (hIx _) _ hi3, hl4, hk4⟩⟩
      | panic ch => exact hp.elim
      | outgrown => exact hp.elim
    · rintro e U ⟨⟨v, rfl⟩, (⟨xs, hS, hi, hl, hk⟩ | ⟨pre, hSp, c, hi, hl, hk⟩)⟩
      · have hend := run_endLoop (P := P) hl (by rw [hrec]; simp)
        rw [hrec] at hend
        exact ⟨none, _, hend, hdone _ xs _ (Nat.le_refl _) hS (hI.putObj _ hi (by omega) hl rfl) ((World.putObj_heap_other (by omega)).trans hk)⟩
      · have hend := run_endLoop (P := P) hl (by rw [hrec]; simp)
        rw [hrec] at hend
        exact ⟨some c, _, hend, hstop _ c pre _ (Nat.le_refl _) hSp ((hIx c).putObj _ hi (by omega) hl rfl) ((World.putObj_heap_other (by omega)).trans hk)⟩
end Go.Proofs.YtldcehhhndlhdaaGreatDoor
/- What a call owns while a range over a function of its own runs. No function here; no conditions. -/
namespace Go.Proofs.YtldcehhhndlhdaaGreatDoor
open Go.RowKit Go.Sort

/-- These blocks lie as they lay. -/
structure KpK (Ks : List Nat) (W W' : World) : Prop where
  size : W.heap.size ≤ W'.heap.size
  same : ∀ k ∈ Ks, W'.heap[k]? = W.heap[k]?
theorem KpK.refl (Ks : List Nat) (W : World) : KpK Ks W W := ⟨Nat.le_refl _, fun _ _ => rfl⟩
theorem KpK.trans {Ks : List Nat} {A B C : World} (h : KpK Ks A B) (k : KpK Ks B C) : KpK Ks A C := ⟨Nat.le_trans h.size k.size, fun i hi => (k.same i hi).trans (h.same i hi)⟩
theorem KpK.putObj {Ks : List Nat} {n : Nat} (hK : ∀ k ∈ Ks, k < n) (W : World) (l : Nat) : ∀ (o o' : Obj), n ≤ l → W.heap[l]? = some o → o.isCells = false → o.isWalk = false → KpK Ks W (W.putObj l o') := fun _ _ hl _ _ _ =>
  ⟨by simp, fun k hk => World.putObj_heap_other (by have := hK k hk; omega)⟩
theorem KpK.below {Ks : List Nat} {W W' : World} (h : Below W.heap.size W W') (hK : ∀ k ∈ Ks, k < W.heap.size) : KpK Ks W W' := ⟨h.size, fun k hk => h.block k (hK k hk)⟩
theorem KpK.grown {Ks : List Nat} {W W' : World} {row : Option Nat} (h : W.grownBy W' row) (hK : ∀ k ∈ Ks, k < W.heap.size) (hr : ∀ k ∈ Ks, row ≠ some k) : KpK Ks W W' := ⟨h.size, fun k hk => h.block k (hK k hk) (fun e => hr k hk e.symm)⟩
theorem KpK.setCell {Ks : List Nat} {W : World} {a : Addr} {v : Value} (hK : ∀ k ∈ Ks, k ≠ a.block) : KpK Ks W (W.setCell a v) := ⟨by simp [World.setCell], fun k hk => Below.heap_setCell _ _ _ k (hK k hk)⟩
theorem ko_below {W W' : World} (h : Below W.heap.size W W') : KeepsOthers W W' := ⟨h.size, fun k _ hk _ => (h.block k (Array.getElem?_eq_some_iff.1 hk).1).trans hk⟩

/-- A thing of the call's own that is cells. -/
def Item.cel : Item → Prop
  | .any _ p => ∀ o, p o → o.isCells = true
  | _ => True
theorem Item.ok.cells {base : Nat} {w : World} {x : Item} (h : x.ok base w) (hc : x.cel) {b : Nat} (hb : x.blk = some b) {o : Obj} (ho : w.heap[b]? = some o) : o.isCells = true := by
  cases x with
  | box b' cs =>
    obtain ⟨_, T, h2⟩ := h
    injection hb with hb
    subst hb
    rw [ho] at h2
    cases h2
    rfl
  | own e size v m xs =>
    rcases h.2 with ⟨rfl, _⟩ | ⟨g, cap, cur, rfl, _, hh, _⟩
    · cases hb
    · cases hb
      rw [ho] at hh
      cases hh
      rfl
  | any b' p =>
    obtain ⟨_, o', h2, h3⟩ := h
    injection hb with hb
    subst hb
    rw [ho] at h2
    cases h2
    exact hc _ h3
section
variable {w0 w w' : World} {n : Nat} {L : List Item}
theorem St.other (h : St w0 w n L) {row : Option Nat} {B : Nat} (hg : w.grownBy w' row) (hr : ∀ r, row = some r → B ≤ r ∧ ∃ o : Obj, w.heap[r]? = some o ∧ o.isCells = false) (hB : w0.heap.size ≤ B) (hL : ∀ x ∈ L, x.cel) : St w0 w' w'.heap.size L := by
  refine ⟨rfl, h.bel.trans ⟨hg.os, hg.tape, hg.output, hg.size, fun k hk => hg.block k (by have := h.bel.size; omega) (fun e => ?_)⟩, fun x hx => ?_, h.apart⟩
  · have := (hr k e.symm).1
    omega
  · have hok := h.ok x hx
    refine hok.same fun b hb => hg.block b (hok.lt hb).2 (fun e => ?_)
    obtain ⟨_, o, ho, hc⟩ := hr b e.symm
    rw [hok.cells (hL x hx) hb ho] at hc
    cases hc
/-- Such a thing may be said between two rounds. -/
theorem St.ownFrom {β : Type} {w0 : World} {B : Nat} (L : β → List Item) (hB : w0.heap.size ≤ B) (hL : ∀ s, ∀ x ∈ L s, x.cel) : OwnFrom B (fun (s : β) W => St w0 W W.heap.size (L s)) :=
  fun s _ _ _ hs hg hr => hs.other hg hr hB (hL s)
theorem St.ownFrom' {β : Type} {w0 : World} {B m : Nat} (L : β → List Item) (hB : w0.heap.size ≤ B) (hL : ∀ s, ∀ x ∈ L s, x.cel) : OwnFrom B (fun (s : β) W => St w0 W W.heap.size (L s) ∧ m ≤ W.heap.size) :=
  fun s _ _ _ hs hg hr => ⟨hs.1.other hg hr hB (hL s), Nat.le_trans hs.2 hg.size⟩
/-- Behind a step in which one of its things turned, what is no cells lies as it lay. -/
theorem St.ko (h : St w0 w n L) (i : Nat) {x : Item} (hi : L[i]? = some x) (hc : x.cel) (hg : w.grownBy w' x.blk) : KeepsOthers w w' :=
  KeepsOthers.of_grownBy hg fun _ _ hj ho => (h.ok x (List.mem_of_getElem? hi)).cells hc hj ho
theorem St.apart' (h : St w0 w n L) (i j : Nat) {x y : Item} (hi : L[i]? = some x) (hj : L[j]? = some y) (hij : i ≠ j) {b : Nat} (hb : y.blk = some b) : x.blk ≠ some b := fun e =>
  hij (nodup_fm Item.blk L i j x y b h.apart hi hj e hb)
/-- What was at the start, behind the marks of the loop that has ended. -/
theorem St.putD (h : St w0 w n L) {D : Nat} {o : Obj} (hD : w0.heap.size ≤ D) (hk : w.heap[D]? = some o) (ho : o.isCells = false) (o' : Obj) (hL : ∀ x ∈ L, x.cel) : St w0 (w.putObj D o') (w.putObj D o').heap.size L :=
  h.other (B := D) (grownBy_putObj' w D o') (fun r e => by cases e; exact ⟨Nat.le_refl _, _, hk, ho⟩) hD hL
end

/-- A call's walk, in the form that lets it range over a function. -/
theorem calls_of_marks {P : Program} {f : FuncId} {fn : Func} {c : Code} {args : Array Value} {w : World} {R : Ending → World → Prop}
    (hf : P.funcs[f]? = some fn) (hb : fn.body = some c)
    (h : c.wp P (bodyPostM Fence.wide 5 P fn R) { tmps := args ++ Array.replicate (fn.ntmps - args.size) undef, defers := [] } w) : Calls P f args w R :=
  callsIn_wide.1 (callsIn_of_wp_marks (n := 5) hf hb trivial (wpIn_wide.2 h) rfl)
end Go.Proofs.YtldcehhhndlhdaaGreatDoor
/- The iterator over the levels: its contract. -/
namespace Go.Proofs.YtldcehhhndlhdaaGreatDoor
open Go.RowKit Go.Sort
attribute [local go_sem] Oper.semAt_some

/-- Between what the level of a well is. -/
def lvl (ms : List Int) (w : Nat) : Sp := ⟨-at_ ms w 6, at_ ms 6 w⟩
def encL (ms : List Int) (x : Nat) : Array Value := #[I (x : Nat), (lvl ms x).val]
/-- Bounds that may be turned around. -/
def Okm (ms : List Int) : Prop := ms.length = 49 ∧ ∀ i, i < 7 → -9000000000 ≤ at_ ms i 6 ∧ at_ ms i 6 ≤ 9000000000

end Go.Proofs.YtldcehhhndlhdaaGreatDoor
/- Walks: width. -/
namespace Go.Proofs.YtldcehhhndlhdaaGreatDoor
open Go.RowKit Go.Sort Go.Shelf
attribute [local go_sem] Oper.semAt_some

/-- How wide the levels are together. -/
def widL (ms : List Int) (xs : List Nat) : Int := (xs.map fun x => (lvl ms x).high - (lvl ms x).low).sum
theorem widL_snoc (ms : List Int) (xs : List Nat) (x : Nat) : widL ms (xs ++ [x]) = widL ms xs + ((lvl ms x).high - (lvl ms x).low) := by simp [widL]
/-- Levels of wells that are small numbers. -/
def Sml (ms : List Int) (N : Nat) : Prop := ∀ i, i < N → -99 ≤ (lvl ms i).low ∧ (lvl ms i).low ≤ 99 ∧ -99 ≤ (lvl ms i).high ∧ (lvl ms i).high ≤ 99
theorem widL_bd {ms : List Int} {N : Nat} (h : Sml ms N) (hN : N ≤ 6) : ∀ k, k ≤ N → -198 * k ≤ widL ms (List.range k) ∧ widL ms (List.range k) ≤ 198 * k
  | 0, _ => by simp [widL]
  | k + 1, hk => by
    have := widL_bd h hN k (by omega)
    have := h k (by omega)
    rw [List.range_succ, widL_snoc]
    omega

end Go.Proofs.YtldcehhhndlhdaaGreatDoor
/- The rules for regions that draw their order, in a round of a range over a function. No function here; no conditions. -/
namespace Go.Proofs.YtldcehhhndlhdaaGreatDoor
open Go.RowKit
section
variable {P : Program} {ops : Array Oper} {l n : Nat}
/-- No operation of the region is a 'defer'. -/
def noDefer (ops : Array Oper) : Bool := ops.all fun o => match o.op with | .defer _ => false | _ => true
theorem rowsIn_round {row : String} {args : Array Value} {w : World} {R : Value → World → Prop} (h : Rows P row args w R) : RowsIn (Fence.wide.inRound l) n P row args w R := fun c cs _ =>
  let ⟨v, w', r, s⟩ := h c cs
  ⟨v, w', r, stepsIn_wide.2 s⟩
theorem op_in {o : Oper} {a : Act} {w : World} {K : Act → World → Prop} {Q : Exit → Act → World → Prop} (hd : ∀ c, o.op ≠ .defer c) (h : o.wp P a w K Q) : o.wpIn (Fence.wide.inRound l) n P a w K Q := by
  refine ⟨fun _ _ => trivial, ?_⟩
  unfold Oper.wp at h
  rw [Fence.inRound_round, Oper.semAt_some l a.eval o hd]
  generalize (execOp a.eval o).run P w = r at h
  cases r with
  | ok x w' =>
    cases x <;> simp only [Oper.upon, Oper.uponIn] at h ⊢ <;> first | exact h | exact h.elim | exact ⟨fun h' => by simp [Fence.wide] at h', CallsIn.inRound l (callsIn_wide.2 h)⟩ | exact ⟨fun h' => by simp [Fence.wide] at h', rowsIn_round h⟩
  | halt x w' => cases x <;> simp only [Oper.upon, Oper.uponIn] at h ⊢ <;> exact h
theorem noDefer_at (h : noDefer ops = true) {i : Nat} {o : Oper} (ho : ops[i]? = some o) : ∀ c, o.op ≠ .defer c := by
  intro c hc
  unfold noDefer at h
  rw [Array.all_eq_true] at h
  obtain ⟨hi, rfl⟩ := Array.getElem?_eq_some_iff.1 ho
  have := h i hi
  rw [hc] at this
  cases this
theorem any_in {Q : Exit → Act → World → Prop} (hd : noDefer ops = true) (hQ : ¬ LetsOut Q) : ∀ (fuel : Nat) (listed : Array Bool) (a : Act) (w : World), wpAny P .any ops Q fuel listed a w → wpAnyIn (Fence.wide.inRound l) n P .any ops Q fuel listed a w
  | 0, _, _, _, h => h
  | fuel + 1, listed, a, w, h => by
    refine ⟨h.1, fun i hi => ?_⟩
    have hi' := h.2 i hi
    unfold wpOp at hi'
    unfold wpOpIn
    cases ho : ops[i]? with
    | none => rw [ho] at hi'; exact any_in hd hQ fuel _ a w hi'
    | some o =>
      rw [ho] at hi'
      simp only at hi' ⊢
      split
      · rename_i hw
        rw [if_pos hw] at hi'
        rcases hi' with hi' | hi'
        · exact op_in (noDefer_at hd ho) (Oper.wp_mono (fun a w => any_in hd hQ fuel _ a w) hi')
        · exact absurd hi'.2 hQ
      · rename_i hw
        rw [if_neg hw] at hi'
        exact ⟨fun _ _ => trivial, any_in hd hQ fuel _ _ _ hi'⟩
theorem then_noOut (Q : Act → World → Prop) : ¬ LetsOut (Exit.then Q (fun _ _ _ => False)) := fun ⟨_, _, h⟩ => h

theorem wpIn_region_seg {id : Nat} {a : Act} {w : World} {R : Exit → Act → World → Prop} (segs : List (List Nat × Nat)) (last tail : List Nat) (k : Nat) (hm : P.follows .mixedOrders = true)
    (hp : (noDefer ops && (Region.noSelect ops && tailOk ops k && planOk ops k segs last tail (Array.replicate ops.size false) && tail.all (fun i => decide (k ≤ i) && decide (i < ops.size)) && decide ((segs.map fun s => s.1.length + 1).sum + last.length + tail.length = ops.size))) = true)
    (h : ∀ Q : Act → World → Prop, (∀ a w, R .normal a w → Q a w) → ∀ w', Below w.heap.size w w' → segRun P ops Q segs last tail a w') : (Code.region id ops true).wpIn (Fence.wide.inRound l) n P R a w := by
  simp only [Bool.and_eq_true, decide_eq_true_eq] at hp
  obtain ⟨hd, ⟨⟨⟨hs, ht⟩, hp⟩, hk⟩, he⟩ := hp
  have hk' : ∀ i ∈ tail, k ≤ i ∧ i < ops.size := fun i hi => by simpa using List.all_eq_true.1 hk i hi
  refine Code.wpIn_mono (Q := Exit.then (fun a w => R .normal a w) (fun _ _ _ => False)) (fun e a w hq => by cases e <;> first | exact hq | exact hq.elim) ?_
  refine wpIn_region_any hm (any_in hd (then_noOut _) _ _ _ _ (wpAny_of_G (S := Cls w.drew) (k := k) _ _ _ _ ?_))
  have key := seg_any hs ht segs last tail _ a w.drew Closed.start hp hk' (h _ (fun _ _ h => h) _ (Below.refl _ _).drew)
  rw [he] at key
  exact key
theorem wpIn_region_treeC {id : Nat} {a : Act} {w : World} {R : Exit → Act → World → Prop} (p : Plan) (k : Nat) (hm : P.follows .mixedOrders = true)
    (hp : (noDefer ops && (Region.noSelect ops && tailOk ops k && treeOk ops k p ops.size (Array.replicate ops.size false))) = true)
    (h : ∀ Q : Act → World → Prop, (∀ a w, R .normal a w → Q a w) → ∀ w', Below w.heap.size w w' → ∃ C : World → Prop, C w' ∧ treeRunC P ops Q C p a w') : (Code.region id ops true).wpIn (Fence.wide.inRound l) n P R a w := by
  simp only [Bool.and_eq_true] at hp
  obtain ⟨hd, ⟨hs, ht⟩, hp⟩ := hp
  refine Code.wpIn_mono (Q := Exit.then (fun a w => R .normal a w) (fun _ _ _ => False)) (fun e a w hq => by cases e <;> first | exact hq | exact hq.elim) ?_
  obtain ⟨C, hC, hrun⟩ := h _ (fun _ _ h => h) w.drew (Below.refl _ _).drew
  refine wpIn_region_any hm (any_in hd (then_noOut _) _ _ _ _ (wpAny_of_G (S := C) (k := k) _ _ _ _ ?_))
  exact tree_anyC hs ht p _ _ a w.drew Closed.start hC hp hrun
theorem wpIn_region_treeB {id : Nat} {a : Act} {w : World} {R : Exit → Act → World → Prop} (p : Plan) (k : Nat) (hm : P.follows .mixedOrders = true)
    (hp : (noDefer ops && (Region.noSelect ops && tailOk ops k && treeOk ops k p ops.size (Array.replicate ops.size false))) = true)
    (h : ∀ Q : Act → World → Prop, (∀ a w, R .normal a w → Q a w) → ∀ w', Below w.heap.size w w' → treeRunB P ops Q w' p a w') : (Code.region id ops true).wpIn (Fence.wide.inRound l) n P R a w := by
  simp only [Bool.and_eq_true] at hp
  obtain ⟨hd, ⟨hs, ht⟩, hp⟩ := hp
  refine Code.wpIn_mono (Q := Exit.then (fun a w => R .normal a w) (fun _ _ _ => False)) (fun e a w hq => by cases e <;> first | exact hq | exact hq.elim) ?_
  refine wpIn_region_any hm (any_in hd (then_noOut _) _ _ _ _ (wpAny_of_G (S := Cls w.drew) (k := k) _ _ _ _ ?_))
  exact tree_anyB hs ht p _ _ a w.drew Closed.start (Cls.refl _) hp (h _ (fun _ _ h => h) _ (Below.refl _ _).drew)
end
end Go.Proofs.YtldcehhhndlhdaaGreatDoor
/- Spans, soundings and slopes held against each other. No function here; no conditions. -/
namespace Go.Proofs.YtldcehhhndlhdaaGreatDoor
open Go.RowKit

theorem guardT42 : Tryz.prog.eqGuardType Tryz.prog.depth 42 = false := by kernel_rfl
theorem stoodT42 : Tryz.prog.stoodInHeld 42 = false := by kernel_rfl
theorem fieldsT42 : Tryz.prog.underlying 42 = some (.struct (Tryz.prog.fieldsOf 42)) := by kernel_rfl
theorem span_equal (d : Nat) (a b : Sp) (w : World) : (Op.equalIn (d + 3) 42 a.val b.val).run Tryz.prog w = .ok (a == b) w := by
  obtain ⟨a1, a2⟩ := a
  obtain ⟨b1, b2⟩ := b
  rw [run_equalIn_agg w _ _ _ _ fieldsT42 stoodT42]
  have hf : (Tryz.prog.fieldsOf 42).toList = [{ name := "Low", type := 3, offset := 0, embedded := false, tag := "", pkgPath := "", byteOffset := 0 }, { name := "High", type := 3, offset := 1, embedded := false, tag := "", pkgPath := "", byteOffset := 8 }] := by kernel_rfl
  rw [hf]
  have e : ((⟨a1, a2⟩ : Sp) == ⟨b1, b2⟩) = (decide (a1 = b1) && decide (a2 = b2)) := by
    rw [Bool.eq_iff_iff, beq_iff_eq, Sp.mk.injEq]; simp
  rw [e]
  simp [Op.eqFields, go_sem]
  by_cases h1 : a1 = b1 <;> by_cases h2 : a2 = b2 <;> simp [h1, h2]
theorem span_neq (a b : Sp) (w : World) : (binOp .neq 42 a.val b.val).run Tryz.prog w = .ok (.bool (!(a == b))) w := by rw [run_neq_struct, span_equal 9997]; rfl
theorem span_eql (a b : Sp) (w : World) : (binOp .eql 42 a.val b.val).run Tryz.prog w = .ok (.bool (a == b)) w := by rw [run_eql_struct, span_equal 9997]; rfl
end Go.Proofs.YtldcehhhndlhdaaGreatDoor
/- Walks: same. -/
namespace Go.Proofs.YtldcehhhndlhdaaGreatDoor
open Go.RowKit Go.Sort Go.Shelf
attribute [local go_sem] Oper.semAt_some

/-- Whether bounds leave the same levels. -/
def sameL (ms mo : List Int) (xs : List Nat) : Bool := xs.all fun x => lvl ms x == lvl mo x
theorem sameL_snoc (ms mo : List Int) (xs : List Nat) (x : Nat) : sameL ms mo (xs ++ [x]) = (sameL ms mo xs && (lvl ms x == lvl mo x)) := by simp [sameL]

end Go.Proofs.YtldcehhhndlhdaaGreatDoor
