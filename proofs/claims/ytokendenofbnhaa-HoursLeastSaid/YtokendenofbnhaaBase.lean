/- Readings of streets and rosters in memory. Plain; no conditions. -/
import Derived.Test.YtokendenofbnhaaSt
import Derived.Test.YtokendenofbnhaaPlain
namespace Go.Proofs.Ytokendenofbnhaa
open Go.RowKit

def Str.cells (s : Str) : List Value := [I s.has, I s.frm, I s.to, I s.cost]
def strCells (ss : List Str) : List Value := ss.flatMap Str.cells
theorem strCells_length (ss : List Str) : (strCells ss).length = ss.length * 4 := by
  induction ss with
  | nil => rfl
  | cons p ps ih => simp [strCells, Str.cells] at ih ⊢; omega
theorem strCells_at : ∀ (ss : List Str) (i : Nat) (h : i < ss.length), (strCells ss)[i * 4]? = some (I ss[i].has) ∧ (strCells ss)[i * 4 + 1]? = some (I ss[i].frm) ∧ (strCells ss)[i * 4 + 2]? = some (I ss[i].to) ∧ (strCells ss)[i * 4 + 3]? = some (I ss[i].cost)
  | [], i, h => absurd h (by simp)
  | s :: ss, 0, _ => ⟨rfl, rfl, rfl, rfl⟩
  | s :: ss, i + 1, h => by
    have := strCells_at ss i (by simpa using h)
    have e : strCells (s :: ss) = I s.has :: I s.frm :: I s.to :: I s.cost :: strCells ss := rfl
    rw [e, show (i + 1) * 4 = i * 4 + 4 from by omega]
    simpa using this

def Strs (w : World) (v : Value) (ss : List Str) : Prop := Reads w 4 v ss.length (strCells ss)
theorem Strs.below {w w' : World} {v : Value} {ss : List Str} (h : Strs w v ss) (hb : Below w.heap.size w w') : Strs w' v ss := Reads.below h hb
theorem Strs.open_ {w : World} {v : Value} {ss : List Str} (h : Strs w v ss) :
    ∃ A c, v = .slice A ss.length c ∧ ss.length ≤ c ∧ c ≤ 9223372036854775807 ∧ (0 < ss.length → ∃ b o, A = some ⟨b, o, none⟩ ∧ b < w.heap.size ∧
      ∀ j (hj : j < ss.length), w.cell? ⟨b, o + j * 4, none⟩ = some (I ss[j].has) ∧ w.cell? ⟨b, o + j * 4 + 1, none⟩ = some (I ss[j].frm) ∧ w.cell? ⟨b, o + j * 4 + 2, none⟩ = some (I ss[j].to) ∧ w.cell? ⟨b, o + j * 4 + 3, none⟩ = some (I ss[j].cost)) := by
  obtain ⟨h1, A, c, h2, h3, h4, h5⟩ := h
  refine ⟨A, c, h2, h3, h4, fun hn => ?_⟩
  obtain ⟨b, o, h6, h7⟩ := h5 hn
  have hc : ∀ j (hj : j < ss.length), w.cell? ⟨b, o + j * 4, none⟩ = some (I ss[j].has) ∧ w.cell? ⟨b, o + j * 4 + 1, none⟩ = some (I ss[j].frm) ∧ w.cell? ⟨b, o + j * 4 + 2, none⟩ = some (I ss[j].to) ∧ w.cell? ⟨b, o + j * 4 + 3, none⟩ = some (I ss[j].cost) := fun j hj => by
    obtain ⟨e1, e2, e3, e4⟩ := strCells_at ss j hj
    exact ⟨h7 _ _ e1, by have := h7 _ _ e2; simpa [Nat.add_assoc] using this, by have := h7 _ _ e3; simpa [Nat.add_assoc] using this, by have := h7 _ _ e4; simpa [Nat.add_assoc] using this⟩
  exact ⟨b, o, h6, World.block_lt_of_cell? w _ (hc 0 hn).1, hc⟩

def RosAt (w : World) (v : Value) (r : Ros) : Prop := ∃ rv sv, v = .agg #[rv, sv] ∧ Ints w rv r.room ∧ Strs w sv r.strs
theorem RosAt.below {w w' : World} {v : Value} {r : Ros} (h : RosAt w v r) (hb : Below w.heap.size w w') : RosAt w' v r := by
  obtain ⟨rv, sv, h1, h2, h3⟩ := h
  exact ⟨rv, sv, h1, h2.below hb, h3.below hb⟩
/-- A street's value. -/
abbrev Str.val (s : Str) : Value := .agg #[I s.has, I s.frm, I s.to, I s.cost]
end Go.Proofs.Ytokendenofbnhaa
