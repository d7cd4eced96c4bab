/- Readings of towns and bounds in memory. Plain; no conditions. -/
import Derived.Test.YtplbaijdnpfdgaaSt2
import Derived.Test.YtplbaijdnpfdgaaSegC
import Derived.Test.YtplbaijdnpfdgaaPlain3
namespace Go.Proofs.Ytplbaijdnpfdgaa
open Go.RowKit

/-- The bounds lie in the block B. -/
def MatAt (w : World) (B : Nat) (ms : List Int) : Prop := w.heap[B]? = some (.cells (ms.map I).toArray 113 (0, 0))
theorem MatAt.same {w w' : World} {B : Nat} {ms : List Int} (h : MatAt w B ms) (hs : w'.heap[B]? = w.heap[B]?) : MatAt w' B ms := by unfold MatAt at *; rw [hs]; exact h
theorem MatAt.lt {w : World} {B : Nat} {ms : List Int} (h : MatAt w B ms) : B < w.heap.size := lt_of_block h
theorem MatAt.below {w w' : World} {B : Nat} {ms : List Int} (h : MatAt w B ms) (hb : Below w.heap.size w w') : MatAt w' B ms := h.same (hb.block B h.lt)
theorem MatAt.cell {w : World} {B : Nat} {ms : List Int} (h : MatAt w B ms) (i j : Nat) (hl : 7 * i + j < ms.length) : w.cell? ⟨B, i * 7 + j, none⟩ = some (I (at_ ms i j)) := by
  rw [at_len ms i j hl, Nat.mul_comm i 7]
  unfold MatAt at h
  simp [World.cell?, h, List.getElem?_eq_getElem hl]
theorem MatAt.free {w : World} {B : Nat} {ms : List Int} (h : MatAt w B ms) (o : Nat) : w.frozen? ⟨B, o, none⟩ = false := by
  unfold MatAt at h
  simp [World.frozen?, h]
theorem MatAt.set {w : World} {B : Nat} {ms : List Int} (h : MatAt w B ms) (i j : Nat) (x : Int) : MatAt (w.setCell ⟨B, i * 7 + j, none⟩ (I x)) B (ms.set (7 * i + j) x) := by
  have hlt := h.lt
  have h' : w.heap[B] = .cells (ms.map I).toArray 113 (0, 0) := by
    unfold MatAt at h
    simpa [Array.getElem?_eq_getElem hlt] using h
  unfold MatAt
  show (w.heap.modify B _)[B]? = _
  rw [Array.getElem?_eq_getElem (by simpa using hlt), Array.getElem_modify_self, h']
  simp [List.map_set, Nat.mul_comm]
theorem grown_trans' {a b c : World} {row : Option Nat} (h : a.grownBy b row) (k : b.grownBy c row) : a.grownBy c row :=
  ⟨k.os.trans h.os, k.tape.trans h.tape, k.output.trans h.output, Nat.le_trans h.size k.size, fun i hi hne => (k.block i (Nat.lt_of_lt_of_le hi h.size) hne).trans (h.block i hi hne)⟩

/-! Soundings, slopes, spans, towns. -/
def sndCells (ss : List Snd) : List Value := ss.flatMap fun s => [I s.well, I s.low, I s.high]
def slpCells (ss : List Slp) : List Value := ss.flatMap fun s => [I s.a, I s.b, I s.low, I s.high]
def spCells (ss : List Sp) : List Value := ss.flatMap fun s => [I s.low, I s.high]
theorem sndCells_len (ss : List Snd) : (sndCells ss).length = ss.length * 3 := by
  induction ss with
  | nil => rfl
  | cons p ps ih => simp [sndCells] at ih ⊢; omega
theorem slpCells_len (ss : List Slp) : (slpCells ss).length = ss.length * 4 := by
  induction ss with
  | nil => rfl
  | cons p ps ih => simp [slpCells] at ih ⊢; omega
theorem spCells_len (ss : List Sp) : (spCells ss).length = ss.length * 2 := by
  induction ss with
  | nil => rfl
  | cons p ps ih => simp [spCells] at ih ⊢; omega
theorem sndCells_at : ∀ (ss : List Snd) (i : Nat) (h : i < ss.length), (sndCells ss)[i * 3]? = some (I ss[i].well) ∧ (sndCells ss)[i * 3 + 1]? = some (I ss[i].low) ∧ (sndCells ss)[i * 3 + 2]? = some (I ss[i].high)
  | [], i, h => absurd h (by simp)
  | s :: ss, 0, _ => ⟨rfl, rfl, rfl⟩
  | s :: ss, i + 1, h => by
    have := sndCells_at ss i (by simpa using h)
    have e : sndCells (s :: ss) = I s.well :: I s.low :: I s.high :: sndCells ss := rfl
    rw [e, show (i + 1) * 3 = i * 3 + 3 from by omega]
    simpa using this
theorem slpCells_at : ∀ (ss : List Slp) (i : Nat) (h : i < ss.length), (slpCells ss)[i * 4]? = some (I ss[i].a) ∧ (slpCells ss)[i * 4 + 1]? = some (I ss[i].b) ∧ (slpCells ss)[i * 4 + 2]? = some (I ss[i].low) ∧ (slpCells ss)[i * 4 + 3]? = some (I ss[i].high)
  | [], i, h => absurd h (by simp)
  | s :: ss, 0, _ => ⟨rfl, rfl, rfl, rfl⟩
  | s :: ss, i + 1, h => by
    have := slpCells_at ss i (by simpa using h)
    have e : slpCells (s :: ss) = I s.a :: I s.b :: I s.low :: I s.high :: slpCells ss := rfl
    rw [e, show (i + 1) * 4 = i * 4 + 4 from by omega]
    simpa using this
theorem spCells_at : ∀ (ss : List Sp) (i : Nat) (h : i < ss.length), (spCells ss)[i * 2]? = some (I ss[i].low) ∧ (spCells ss)[i * 2 + 1]? = some (I ss[i].high)
  | [], i, h => absurd h (by simp)
  | s :: ss, 0, _ => ⟨rfl, rfl⟩
  | s :: ss, i + 1, h => by
    have := spCells_at ss i (by simpa using h)
    have e : spCells (s :: ss) = I s.low :: I s.high :: spCells ss := rfl
    rw [e, show (i + 1) * 2 = i * 2 + 2 from by omega]
    simpa using this
def Snds (w : World) (v : Value) (ss : List Snd) : Prop := Reads w 3 v ss.length (sndCells ss)
def Slps (w : World) (v : Value) (ss : List Slp) : Prop := Reads w 4 v ss.length (slpCells ss)
def Sps (w : World) (v : Value) (ss : List Sp) : Prop := Reads w 2 v ss.length (spCells ss)
theorem Snds.below {w w' : World} {v : Value} {ss : List Snd} (h : Snds w v ss) (hb : Below w.heap.size w w') : Snds w' v ss := Reads.below h hb
theorem Slps.below {w w' : World} {v : Value} {ss : List Slp} (h : Slps w v ss) (hb : Below w.heap.size w w') : Slps w' v ss := Reads.below h hb
theorem Sps.below {w w' : World} {v : Value} {ss : List Sp} (h : Sps w v ss) (hb : Below w.heap.size w w') : Sps w' v ss := Reads.below h hb
theorem Snds.open_ {w : World} {v : Value} {ss : List Snd} (h : Snds w v ss) :
    ∃ A c, v = .slice A ss.length c ∧ ss.length ≤ c ∧ c ≤ 9223372036854775807 ∧ (0 < ss.length → ∃ b o, A = some ⟨b, o, none⟩ ∧ b < w.heap.size ∧
      ∀ j (hj : j < ss.length), w.cell? ⟨b, o + j * 3, none⟩ = some (I ss[j].well) ∧ w.cell? ⟨b, o + j * 3 + 1, none⟩ = some (I ss[j].low) ∧ w.cell? ⟨b, o + j * 3 + 2, none⟩ = some (I ss[j].high)) := by
  obtain ⟨h1, A, c, h2, h3, h4, h5⟩ := h
  refine ⟨A, c, h2, h3, h4, fun hn => ?_⟩
  obtain ⟨b, o, h6, h7⟩ := h5 hn
  have hc : ∀ j (hj : j < ss.length), w.cell? ⟨b, o + j * 3, none⟩ = some (I ss[j].well) ∧ w.cell? ⟨b, o + j * 3 + 1, none⟩ = some (I ss[j].low) ∧ w.cell? ⟨b, o + j * 3 + 2, none⟩ = some (I ss[j].high) := fun j hj => by
    obtain ⟨e1, e2, e3⟩ := sndCells_at ss j hj
    exact ⟨h7 _ _ e1, by have := h7 _ _ e2; simpa [Nat.add_assoc] using this, by have := h7 _ _ e3; simpa [Nat.add_assoc] using this⟩
  exact ⟨b, o, h6, World.block_lt_of_cell? w _ (hc 0 hn).1, hc⟩
theorem Slps.open_ {w : World} {v : Value} {ss : List Slp} (h : Slps w v ss) :
    ∃ A c, v = .slice A ss.length c ∧ ss.length ≤ c ∧ c ≤ 9223372036854775807 ∧ (0 < ss.length → ∃ b o, A = some ⟨b, o, none⟩ ∧ b < w.heap.size ∧
      ∀ j (hj : j < ss.length), w.cell? ⟨b, o + j * 4, none⟩ = some (I ss[j].a) ∧ w.cell? ⟨b, o + j * 4 + 1, none⟩ = some (I ss[j].b) ∧ w.cell? ⟨b, o + j * 4 + 2, none⟩ = some (I ss[j].low) ∧ w.cell? ⟨b, o + j * 4 + 3, none⟩ = some (I ss[j].high)) := by
  obtain ⟨h1, A, c, h2, h3, h4, h5⟩ := h
  refine ⟨A, c, h2, h3, h4, fun hn => ?_⟩
  obtain ⟨b, o, h6, h7⟩ := h5 hn
  have hc : ∀ j (hj : j < ss.length), w.cell? ⟨b, o + j * 4, none⟩ = some (I ss[j].a) ∧ w.cell? ⟨b, o + j * 4 + 1, none⟩ = some (I ss[j].b) ∧ w.cell? ⟨b, o + j * 4 + 2, none⟩ = some (I ss[j].low) ∧ w.cell? ⟨b, o + j * 4 + 3, none⟩ = some (I ss[j].high) := fun j hj => by
    obtain ⟨e1, e2, e3, e4⟩ := slpCells_at ss j hj
    exact ⟨h7 _ _ e1, by have := h7 _ _ e2; simpa [Nat.add_assoc] using this, by have := h7 _ _ e3; simpa [Nat.add_assoc] using this, by have := h7 _ _ e4; simpa [Nat.add_assoc] using this⟩
  exact ⟨b, o, h6, World.block_lt_of_cell? w _ (hc 0 hn).1, hc⟩
theorem Sps.open_ {w : World} {v : Value} {ss : List Sp} (h : Sps w v ss) :
    ∃ A c, v = .slice A ss.length c ∧ ss.length ≤ c ∧ c ≤ 9223372036854775807 ∧ (0 < ss.length → ∃ b o, A = some ⟨b, o, none⟩ ∧ b < w.heap.size ∧
      ∀ j (hj : j < ss.length), w.cell? ⟨b, o + j * 2, none⟩ = some (I ss[j].low) ∧ w.cell? ⟨b, o + j * 2 + 1, none⟩ = some (I ss[j].high)) := by
  obtain ⟨h1, A, c, h2, h3, h4, h5⟩ := h
  refine ⟨A, c, h2, h3, h4, fun hn => ?_⟩
  obtain ⟨b, o, h6, h7⟩ := h5 hn
  have hc : ∀ j (hj : j < ss.length), w.cell? ⟨b, o + j * 2, none⟩ = some (I ss[j].low) ∧ w.cell? ⟨b, o + j * 2 + 1, none⟩ = some (I ss[j].high) := fun j hj => by
    obtain ⟨e1, e2⟩ := spCells_at ss j hj
    exact ⟨h7 _ _ e1, by have := h7 _ _ e2; simpa [Nat.add_assoc] using this⟩
  exact ⟨b, o, h6, World.block_lt_of_cell? w _ (hc 0 hn).1, hc⟩
/-- A town's value, and the value itself. -/
def TwnAt (w : World) (v : Value) (t : Twn) : Prop := ∃ sv pv, v = .agg #[I t.wells, sv, pv] ∧ Snds w sv t.snd ∧ Slps w pv t.slp
theorem TwnAt.below {w w' : World} {v : Value} {t : Twn} (h : TwnAt w v t) (hb : Below w.heap.size w w') : TwnAt w' v t := by
  obtain ⟨sv, pv, h1, h2, h3⟩ := h
  exact ⟨sv, pv, h1, h2.below hb, h3.below hb⟩
abbrev Snd.val (s : Snd) : Value := .agg #[I s.well, I s.low, I s.high]
abbrev Slp.val (s : Slp) : Value := .agg #[I s.a, I s.b, I s.low, I s.high]
abbrev Sp.val (s : Sp) : Value := .agg #[I s.low, I s.high]
abbrev unitV : Value := .tuple #[]
end Go.Proofs.Ytplbaijdnpfdgaa
