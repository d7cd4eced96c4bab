/- Readings of towns and bounds in memory. Plain; no conditions. -/
import Derived.Test.YtldcehhhndlhdaaDoorC3
import Derived.Test.YtldcehhhndlhdaaDoorC5
import Derived.Test.YtldcehhhndlhdaaDoorC7
namespace Go.Proofs.YtldcehhhndlhdaaDoor
open Go.RowKit

/-- The bounds lie in the block B. -/
def MatAt (w : World) (B : Nat) (ms : List Int) : Prop := w.heap[B]? = some (.cells (ms.map I).toArray 163 (0, 0))
theorem MatAt.same {w w' : World} {B : Nat} {ms : List Int} (h : MatAt w B ms) (hs : w'.heap[B]? = w.heap[B]?) : MatAt w' B ms := by unfold MatAt at *; rw [hs]; exact h
theorem MatAt.lt {w : World} {B : Nat} {ms : List Int} (h : MatAt w B ms) : B < w.heap.size := lt_of_block h
theorem MatAt.below {w w' : World} {B : Nat} {ms : List Int} (h : MatAt w B ms) (hb : Below w.heap.size w w') : MatAt w' B ms := h.same (hb.block B h.lt)
theorem MatAt.cell {w : World} {B : Nat} {ms : List Int} (h : MatAt w B ms) (i j : Nat) (hl : 7 * i + j < ms.length) : w.cell? ⟨B, i * 7 + j, none⟩ = some (I (at_ ms i j)) := by
  rw [at_len ms i j hl, Nat.mul_comm i 7]
  unfold MatAt at h
  simp [World.cell?, h, List.getElem?_eq_getElem hl]
theorem MatAt.free {w : World} {B : Nat} {ms : List Int} (h : MatAt w B ms) (o : Nat) : w.frozen? ⟨B, o, none⟩ = false := by
  unfold MatAt at h
  simp [World.frozen?, h]
theorem MatAt.set {w : World} {B : Nat} {ms : List Int} (h : MatAt w B ms) (i j : Nat) (x : Int) : MatAt (w.setCell ⟨B, i * 7 + j, none⟩ (I x)) B (ms.set (7 * i + j) x) := by
  have hlt := h.lt
  have h' : w.heap[B] = .cells (ms.map I).toArray 163 (0, 0) := by
    unfold MatAt at h
    simpa [Array.getElem?_eq_getElem hlt] using h
  unfold MatAt
  show (w.heap.modify B _)[B]? = _
  rw [Array.getElem?_eq_getElem (by simpa using hlt), Array.getElem_modify_self, h']
  simp [List.map_set, Nat.mul_comm]
theorem grown_trans' {a b c : World} {row : Option Nat} (h : a.grownBy b row) (k : b.grownBy c row) : a.grownBy c row :=
  ⟨k.os.trans h.os, k.tape.trans h.tape, k.output.trans h.output, Nat.le_trans h.size k.size, fun i hi hne => (k.block i (Nat.lt_of_lt_of_le hi h.size) hne).trans (h.block i hi hne)⟩

/-! Soundings, slopes, spans, towns. -/
def sndCells (ss : List Snd) : List Value := ss.flatMap fun s => [I s.well, I s.low, I s.high]
def slpCells (ss : List Slp) : List Value := ss.flatMap fun s => [I s.a, I s.b, I s.low, I s.high]
def spCells (ss : List Sp) : List Value := ss.flatMap fun s => [I s.low, I s.high]
theorem sndCells_len (ss : List Snd) : (sndCells ss).length = ss.length * 3 := by
  induction ss with
  | nil => rfl
  | cons p ps ih => simp [sndCells] at ih ⊢; omega
theorem slpCells_len (ss : List Slp) : (slpCells ss).length = ss.length * 4 := by
  induction ss with
  | nil => rfl
  | cons p ps ih => simp [slpCells] at ih ⊢; omega
theorem spCells_len (ss : List Sp) : (spCells ss).length = ss.length * 2 := by
  induction ss with
  | nil => rfl
  | cons p ps ih => simp [spCells] at ih ⊢; omega
theorem sndCells_at : ∀ (ss : List Snd) (i : Nat) (h : i < ss.length), (sndCells ss)[i * 3]? = some (I ss[i].well) ∧ (sndCells ss)[i * 3 + 1]? = some (I ss[i].low) ∧ (sndCells ss)[i * 3 + 2]? = some (I ss[i].high)
  | [], i, h => absurd h (by simp)
  | s :: ss, 0, _ => ⟨rfl, rfl, rfl⟩
  | s :: ss, i + 1, h => by
    have := sndCells_at ss i (by simpa using h)
    have e : sndCells (s :: ss) = I s.well :: I s.low :: I s.high :: sndCells ss := rfl
    rw [e, show (i + 1) * 3 = i * 3 + 3 from by omega]
    simpa using this
theorem slpCells_at : ∀ (ss : List Slp) (i : Nat) (h : i < ss.length), (slpCells ss)[i * 4]? = some (I ss[i].a) ∧ (slpCells ss)[i * 4 + 1]? = some (I ss[i].b) ∧ (slpCells ss)[i * 4 + 2]? = some (I ss[i].low) ∧ (slpCells ss)[i * 4 + 3]? = some (I ss[i].high)
  | [], i, h => absurd h (by simp)
  | s :: ss, 0, _ => ⟨rfl, rfl, rfl, rfl⟩
  | s :: ss, i + 1, h => by
    have := slpCells_at ss i (by simpa using h)
    have e : slpCells (s :: ss) = I s.a :: I s.b :: I s.low :: I s.high :: slpCells ss := rfl
    rw [e, show (i + 1) * 4 = i * 4 + 4 from by omega]
    simpa using this
theorem spCells_at : ∀ (ss : List Sp) (i : Nat) (h : i < ss.length), (spCells ss)[i * 2]? = some (I ss[i].low) ∧ (spCells ss)[i * 2 + 1]? = some (I ss[i].high)
  | [], i, h => absurd h (by simp)
  | s :: ss, 0, _ => ⟨rfl, rfl⟩
  | s :: ss, i + 1, h => by
    have := spCells_at ss i (by simpa using h)
    have e : spCells (s :: ss) = I s.low :: I s.high :: spCells ss := rfl
    rw [e, show (i + 1) * 2 = i * 2 + 2 from by omega]
    simpa using this
def Snds (w : World) (v : Value) (ss : List Snd) : Prop := Reads w 3 v ss.length (sndCells ss)
def Slps (w : World) (v : Value) (ss : List Slp) : Prop := Reads w 4 v ss.length (slpCells ss)
def Sps (w : World) (v : Value) (ss : List Sp) : Prop := Reads w 2 v ss.length (spCells ss)
theorem Snds.below {w w' : World} {v : Value} {ss : List Snd} (h : Snds w v ss) (hb : Below w.heap.size w w') : Snds w' v ss := Reads.below h hb
theorem Slps.below {w w' : World} {v : Value} {ss : List Slp} (h : Slps w v ss) (hb : Below w.heap.size w w') : Slps w' v ss := Reads.below h hb
theorem Sps.below {w w' : World} {v : Value} {ss : List Sp} (h : Sps w v ss) (hb : Below w.heap.size w w') : Sps w' v ss := Reads.below h hb
theorem Snds.open_ {w : World} {v : Value} {ss : List Snd} (h : Snds w v ss) :
    ∃ A c, v = .slice A ss.length c ∧ ss.length ≤ c ∧ c ≤ 9223372036854775807 ∧ (0 < ss.length → ∃ b o, A = some ⟨b, o, none⟩ ∧ b < w.heap.size ∧
      ∀ j (hj : j < ss.length), w.cell? ⟨b, o + j * 3, none⟩ = some (I ss[j].well) ∧ w.cell? ⟨b, o + j * 3 + 1, none⟩ = some (I ss[j].low) ∧ w.cell? ⟨b, o + j * 3 + 2, none⟩ = some (I ss[j].high)) := by
  obtain ⟨h1, A, c, h2, h3, h4, h5⟩ := h
  refine ⟨A, c, h2, h3, h4, fun hn => ?_⟩
  obtain ⟨b, o, h6, h7⟩ := h5 hn
  have hc : ∀ j (hj : j < ss.length), w.cell? ⟨b, o + j * 3, none⟩ = some (I ss[j].well) ∧ w.cell? ⟨b, o + j * 3 + 1, none⟩ = some (I ss[j].low) ∧ w.cell? ⟨b, o + j * 3 + 2, none⟩ = some (I ss[j].high) := fun j hj => by
    obtain ⟨e1, e2, e3⟩ := sndCells_at ss j hj
    exact ⟨h7 _ _ e1, by have := h7 _ _ e2; simpa [Nat.add_assoc] using this, by have := h7 _ _ e3; simpa [Nat.add_assoc] using this⟩
  exact ⟨b, o, h6, World.block_lt_of_cell? w _ (hc 0 hn).1, hc⟩
theorem Slps.open_ {w : World} {v : Value} {ss : List Slp} (h : Slps w v ss) :
    ∃ A c, v = .slice A ss.length c ∧ ss.length ≤ c ∧ c ≤ 9223372036854775807 ∧ (0 < ss.length → ∃ b o, A = some ⟨b, o, none⟩ ∧ b < w.heap.size ∧
      ∀ j (hj : j < ss.length), w.cell? ⟨b, o + j * 4, none⟩ = some (I ss[j].a) ∧ w.cell? ⟨b, o + j * 4 + 1, none⟩ = some (I ss[j].b) ∧ w.cell? ⟨b, o + j * 4 + 2, none⟩ = some (I ss[j].low) ∧ w.cell? ⟨b, o + j * 4 + 3, none⟩ = some (I ss[j].high)) := by
  obtain ⟨h1, A, c, h2, h3, h4, h5⟩ := h
  refine ⟨A, c, h2, h3, h4, fun hn => ?_⟩
  obtain ⟨b, o, h6, h7⟩ := h5 hn
  have hc : ∀ j (hj : j < ss.length), w.cell? ⟨b, o + j * 4, none⟩ = some (I ss[j].a) ∧ w.cell? ⟨b, o + j * 4 + 1, none⟩ = some (I ss[j].b) ∧ w.cell? ⟨b, o + j * 4 + 2, none⟩ = some (I ss[j].low) ∧ w.cell? ⟨b, o + j * 4 + 3, none⟩ = some (I ss[j].high) := fun j hj => by
    obtain ⟨e1, e2, e3, e4⟩ := slpCells_at ss j hj
    exact ⟨h7 _ _ e1, by have := h7 _ _ e2; simpa [Nat.add_assoc] using this, by have := h7 _ _ e3; simpa [Nat.add_assoc] using this, by have := h7 _ _ e4; simpa [Nat.add_assoc] using this⟩
  exact ⟨b, o, h6, World.block_lt_of_cell? w _ (hc 0 hn).1, hc⟩
theorem Sps.open_ {w : World} {v : Value} {ss : List Sp} (h : Sps w v ss) :
    ∃ A c, v = .slice A ss.length c ∧ ss.length ≤ c ∧ c ≤ 9223372036854775807 ∧ (0 < ss.length → ∃ b o, A = some ⟨b, o, none⟩ ∧ b < w.heap.size ∧
      ∀ j (hj : j < ss.length), w.cell? ⟨b, o + j * 2, none⟩ = some (I ss[j].low) ∧ w.cell? ⟨b, o + j * 2 + 1, none⟩ = some (I ss[j].high)) := by
  obtain ⟨h1, A, c, h2, h3, h4, h5⟩ := h
  refine ⟨A, c, h2, h3, h4, fun hn => ?_⟩
  obtain ⟨b, o, h6, h7⟩ := h5 hn
  have hc : ∀ j (hj : j < ss.length), w.cell? ⟨b, o + j * 2, none⟩ = some (I ss[j].low) ∧ w.cell? ⟨b, o + j * 2 + 1, none⟩ = some (I ss[j].high) := fun j hj => by
    obtain ⟨e1, e2⟩ := spCells_at ss j hj
    exact ⟨h7 _ _ e1, by have := h7 _ _ e2; simpa [Nat.add_assoc] using this⟩
  exact ⟨b, o, h6, World.block_lt_of_cell? w _ (hc 0 hn).1, hc⟩
/-- A town's value, and the value itself. -/
def TwnAt (w : World) (v : Value) (t : Twn) : Prop := ∃ sv pv, v = .agg #[I t.wells, sv, pv] ∧ Snds w sv t.snd ∧ Slps w pv t.slp
theorem TwnAt.below {w w' : World} {v : Value} {t : Twn} (h : TwnAt w v t) (hb : Below w.heap.size w w') : TwnAt w' v t := by
  obtain ⟨sv, pv, h1, h2, h3⟩ := h
  exact ⟨sv, pv, h1, h2.below hb, h3.below hb⟩
abbrev Snd.val (s : Snd) : Value := .agg #[I s.well, I s.low, I s.high]
abbrev Slp.val (s : Slp) : Value := .agg #[I s.a, I s.b, I s.low, I s.high]
abbrev Sp.val (s : Sp) : Value := .agg #[I s.low, I s.high]
abbrev unitV : Value := .tuple #[]
end Go.Proofs.YtldcehhhndlhdaaDoor
/- Walks: leave, sound, slope, span. -/
namespace Go.Proofs.YtldcehhhndlhdaaDoor
open Go.RowKit Go.Sort

set_option maxRecDepth 20000 in
set_option maxHeartbeats 1000000 in
theorem leave_any (B : Nat) (f t x : Int) (ms : List Int) (w : World) (hm : MatAt w B ms) (hl : ms.length = 49) (hf : 0 ≤ f) (hf' : f < 7) (ht : 0 ≤ t) (ht' : t < 7) :
    Calls Tryd.prog 113 #[.pointer (some ⟨B, 0, none⟩), I f, I t, I x] w fun e w' => e = .returned unitV ∧ w.grownBy w' (some B) ∧ MatAt w' B (leave ms f.toNat t.toNat x) := by
  obtain ⟨f, rfl⟩ := Int.eq_ofNat_of_zero_le hf
  obtain ⟨t, rfl⟩ := Int.eq_ofNat_of_zero_le ht
  go_enter Tryd.func113, Tryd.ntmps113
  go_wp2_with fail
  refine wp_region_treeB (.last [0, 1, 2, 3, 4, 5, 6, 7, 8, 9, 10, 11, 12, 13, 14] [15]) 15 (by kernel_rfl) (by kernel_rfl) ?_
  intro KQ hKQ w1 hb
  have hm1 := hm.below hb
  have hc := hm1.cell f t (by omega)
  have kc := cell_regrown hc
  have hz := hm1.free (f * 7 + t)
  refine treeB_last ?_
  simp only [opsAt, List.filterMap_cons, List.filterMap_nil, List.getElem?_toArray, List.getElem?_cons_succ, List.getElem?_cons_zero]
  repeat (first | go_big_quiet_step (fail) | quiet_step (fail))
  refine wpQuiet_nil ?_
  go_wp2_with fail
  all_goals
    go_end0
    refine ⟨rfl, grown_trans' (grown_of_below hb _) (grown_setCell _ _ _), ?_⟩
    have hs := hm1.set f t (min (at_ ms f t) x)
    first
      | (rw [Int.min_eq_left (by omega)] at hs; simpa [leave, Int.min_eq_left (show at_ ms f t ≤ x by omega)] using hs)
      | (rw [Int.min_eq_right (by omega)] at hs; simpa [leave, Int.min_eq_right (show x ≤ at_ ms f t by omega)] using hs)

/-- What is known of the bounds behind a world. -/
theorem mat_step {w w1 w2 : World} {B : Nat} (h : w.grownBy w1 (some B)) (k : w1.grownBy w2 (some B)) : w.grownBy w2 (some B) := grown_trans' h k

set_option maxRecDepth 20000 in
set_option maxHeartbeats 1000000 in
theorem sound_any (B : Nat) (s : Snd) (ms : List Int) (w : World) (hm : MatAt w B ms) (hl : ms.length = 49) (h0 : 0 ≤ s.well) (h1 : s.well < 6) (h2 : -1000 ≤ s.low) (h3 : s.low ≤ 1000) :
    Calls Tryd.prog 103 #[.pointer (some ⟨B, 0, none⟩), s.val] w fun e w' => e = .returned unitV ∧ w.grownBy w' (some B) ∧ MatAt w' B (soundM ms s) := by
  obtain ⟨sw, sl, sh⟩ := s
  dsimp only at h0 h1 h2 h3
  have hb0 : Below w.heap.size w (w.alloc (.cells #[I sw, I sl, I sh] 31)) := (Below.refl _ _).alloc (Nat.le_refl _) _
  have S := Lib.hid (show St w (w.alloc (.cells #[I sw, I sl, I sh] 31)) (w.heap.size + 1) [.box w.heap.size [I sw, I sl, I sh]] from (St.init w).alloc [I sw, I sl, I sh] 31)
  have hBlt := hm.lt
  have HM := Lib.hid hm
  have HL := Lib.hid hl
  have HB0 := Lib.hid hb0
  clear hm hl hb0
  go_enter Tryd.func103, Tryd.ntmps103
  go_wp2_with fail
  refine (leave_any B 6 sw sh ms _ (HM.out.below HB0.out) HL.out (by omega) (by omega) h0 (by omega)).mono ?_
  rintro e w1 ⟨rfl, hg, hm1⟩
  have hne : w.heap.size ≠ B := by omega
  have hblk : w1.heap[w.heap.size]? = (w.alloc (.cells #[I sw, I sl, I sh] 31)).heap[w.heap.size]? := hg.block _ (by simp) (by simp; omega)
  have e0 : ∀ o, w1.cell? ⟨w.heap.size, o, none⟩ = (w.alloc (.cells #[I sw, I sl, I sh] 31)).cell? ⟨w.heap.size, o, none⟩ := fun o => by simp only [World.cell?, hblk]
  have k0 : w1.cell? ⟨w.heap.size, 0, none⟩ = some (I sw) := (e0 0).trans (S.out.get 0 0 rfl rfl)
  have k1 : w1.cell? ⟨w.heap.size, 1, none⟩ = some (I sl) := (e0 1).trans (S.out.get 0 1 rfl rfl)
  have HM1 := Lib.hid hm1
  have HG := Lib.hid hg
  clear hm1 hg e0 hblk
  go_wp2_with fail
  refine (leave_any B sw 6 (-sl) _ _ HM1.out (by rw [leave_len]; exact HL.out) h0 (by omega) (by omega) (by omega)).mono ?_
  rintro e w2 ⟨rfl, hg2, hm2⟩
  go_wp2_with fail
  go_end0
  exact ⟨rfl, grown_trans' (grown_of_below HB0.out _) (grown_trans' HG.out hg2), hm2⟩

set_option maxRecDepth 20000 in
set_option maxHeartbeats 1000000 in
theorem slope_any (B : Nat) (s : Slp) (ms : List Int) (w : World) (hm : MatAt w B ms) (hl : ms.length = 49) (h0 : 0 ≤ s.a) (h1 : s.a < 6) (h0' : 0 ≤ s.b) (h1' : s.b < 6) (h2 : -1000 ≤ s.low) (h3 : s.low ≤ 1000) :
    Calls Tryd.prog 104 #[.pointer (some ⟨B, 0, none⟩), s.val] w fun e w' => e = .returned unitV ∧ w.grownBy w' (some B) ∧ MatAt w' B (slopeM ms s) := by
  obtain ⟨sa, sb, sl, sh⟩ := s
  dsimp only at h0 h1 h0' h1' h2 h3
  have hb0 : Below w.heap.size w (w.alloc (.cells #[I sa, I sb, I sl, I sh] 77)) := (Below.refl _ _).alloc (Nat.le_refl _) _
  have S := Lib.hid (show St w (w.alloc (.cells #[I sa, I sb, I sl, I sh] 77)) (w.heap.size + 1) [.box w.heap.size [I sa, I sb, I sl, I sh]] from (St.init w).alloc [I sa, I sb, I sl, I sh] 77)
  have hBlt := hm.lt
  have HM := Lib.hid hm
  have HL := Lib.hid hl
  have HB0 := Lib.hid hb0
  clear hm hl hb0
  go_enter Tryd.func104, Tryd.ntmps104
  go_wp2_with fail
  refine (leave_any B sa sb sh ms _ (HM.out.below HB0.out) HL.out h0 (by omega) h0' (by omega)).mono ?_
  rintro e w1 ⟨rfl, hg, hm1⟩
  have hne : w.heap.size ≠ B := by omega
  have hblk : w1.heap[w.heap.size]? = (w.alloc (.cells #[I sa, I sb, I sl, I sh] 77)).heap[w.heap.size]? := hg.block _ (by simp) (by simp; omega)
  have e0 : ∀ o, w1.cell? ⟨w.heap.size, o, none⟩ = (w.alloc (.cells #[I sa, I sb, I sl, I sh] 77)).cell? ⟨w.heap.size, o, none⟩ := fun o => by simp only [World.cell?, hblk]
  have k0 : w1.cell? ⟨w.heap.size, 0, none⟩ = some (I sa) := (e0 0).trans (S.out.get 0 0 rfl rfl)
  have k1 : w1.cell? ⟨w.heap.size, 1, none⟩ = some (I sb) := (e0 1).trans (S.out.get 0 1 rfl rfl)
  have k2 : w1.cell? ⟨w.heap.size, 2, none⟩ = some (I sl) := (e0 2).trans (S.out.get 0 2 rfl rfl)
  have HM1 := Lib.hid hm1
  have HG := Lib.hid hg
  clear hm1 hg e0 hblk
  go_wp2_with fail
  refine (leave_any B sb sa (-sl) _ _ HM1.out (by rw [leave_len]; exact HL.out) h0' (by omega) h0 (by omega)).mono ?_
  rintro e w2 ⟨rfl, hg2, hm2⟩
  go_wp2_with fail
  go_end0
  exact ⟨rfl, grown_trans' (grown_of_below HB0.out _) (grown_trans' HG.out hg2), hm2⟩

set_option maxRecDepth 20000 in
set_option maxHeartbeats 1000000 in
theorem span_any (B : Nat) (f t : Int) (ms : List Int) (w : World) (hm : MatAt w B ms) (hl : ms.length = 49) (hf : 0 ≤ f) (hf' : f < 7) (ht : 0 ≤ t) (ht' : t < 7) (hbd : -9000000000 ≤ at_ ms t.toNat f.toNat) (hbd' : at_ ms t.toNat f.toNat ≤ 9000000000) :
    Calls Tryd.prog 58 #[.pointer (some ⟨B, 0, none⟩), I f, I t] w fun e w' => e = .returned (Sp.val ⟨-at_ ms t.toNat f.toNat, at_ ms f.toNat t.toNat⟩) ∧ Below w.heap.size w w' := by
  obtain ⟨f, rfl⟩ := Int.eq_ofNat_of_zero_le hf
  obtain ⟨t, rfl⟩ := Int.eq_ofNat_of_zero_le ht
  rw [Int.toNat_natCast, Int.toNat_natCast] at *
  have S := Lib.hid (show St w (w.alloc (.cells #[I 0, I 0] 47)) (w.heap.size + 1) [.box w.heap.size [I 0, I 0]] from (St.init w).alloc [I 0, I 0] 47)
  go_enter Tryd.func58, Tryd.ntmps58
  go_wp2_with fail
  refine wp_region_treeB (.last [0, 1, 2, 3, 4, 5, 6, 7, 8, 9, 10, 11, 12, 13, 14, 15] [16]) 16 (by kernel_rfl) (by kernel_rfl) ?_
  intro KQ hKQ w1 hb
  have S := Lib.hid (S.out.call hb)
  have hm1 := hm.below S.out.bel
  have kc := cell_regrown (hm1.cell t f (by omega))
  have kc' := cell_regrown (hm1.cell f t (by omega))
  refine treeB_last ?_
  simp only [opsAt, List.filterMap_cons, List.filterMap_nil, List.getElem?_toArray, List.getElem?_cons_succ, List.getElem?_cons_zero]
  repeat (first | go_big_quiet_step (fail) | quiet_step (fail))
  refine wpQuiet_nil ?_
  have q0 := S.out.get 0 0 rfl rfl
  have q1 := S.out.get 0 1 rfl rfl
  have z0 := S.out.free 0 0 rfl
  have z1 := S.out.free 0 1 rfl
  clear kc kc'
  go_wp2_with fail
  have hlt := S.out.base 0 rfl
  refine bodyPost_ret (v := Sp.val ⟨-at_ ms t f, at_ ms f t⟩) (by simp [results, Tryd.results58, go_sem, q0, q1]) rfl ⟨rfl, ?_⟩
  exact (S.out.bel.setCell (by simp) _).setCell (by simp) _
end Go.Proofs.YtldcehhhndlhdaaDoor
/- Walks: rock. -/
namespace Go.Proofs.YtldcehhhndlhdaaDoor
open Go.RowKit Go.Sort

theorem below_grown {n B : Nat} {a b c : World} (h : Below n a b) (hg : b.grownBy c (some B)) (hB : n ≤ B) (hn : n ≤ b.heap.size) : Below n a c :=
  h.trans ⟨hg.os, hg.tape, hg.output, hg.size, fun k hk => hg.block k (by omega) (fun e => by injection e with e; omega)⟩
/-- The bounds while the diagonal is left out. -/
def rock0To (n : Nat) : List Int := (List.range 49).map fun p => if p < n ∧ p / 7 ≠ p % 7 then 1048576 else 0
theorem rock0To_len (n : Nat) : (rock0To n).length = 49 := by simp [rock0To]
theorem rock0To_all : rock0To 49 = rock0 := by decide +kernel
theorem rock0To_zero : rock0To 0 = List.replicate 49 0 := by decide +kernel
theorem rock0To_ne {i k : Nat} (hk : k < 7) (h : i ≠ k) : (rock0To (7 * i + k)).set (7 * i + k) 1048576 = rock0To (7 * i + (k + 1)) := by
  apply List.ext_getElem
  · simp [rock0To]
  · intro p h1 h2
    rw [List.getElem_set]
    simp only [rock0To, List.getElem_map, List.getElem_range]
    split
    · rename_i e
      rw [if_pos (by omega)]
    · rename_i e
      by_cases hc : p < 7 * i + k ∧ p / 7 ≠ p % 7
      · rw [if_pos hc, if_pos (by omega)]
      · rw [if_neg hc, if_neg (by omega)]
theorem rock0To_eq (i : Nat) (h : i < 7) : rock0To (7 * i + (i + 1)) = rock0To (7 * i + i) := by
  apply List.ext_getElem
  · simp [rock0To]
  · intro p h1 h2
    simp only [rock0To, List.getElem_map, List.getElem_range]
    by_cases hc : p < 7 * i + i ∧ p / 7 ≠ p % 7
    · rw [if_pos hc, if_pos (by omega)]
    · rw [if_neg hc, if_neg (by omega)]

set_option maxRecDepth 20000 in
set_option maxHeartbeats 2000000 in
theorem rock_any (W : Int) (w : World) (h0 : 0 ≤ W) (h6 : W ≤ 6) :
    Calls Tryd.prog 102 #[I W] w fun e w' => e = .returned (.pointer (some ⟨w.heap.size, 0, none⟩)) ∧ MatAt w' w.heap.size (rock W) ∧ Below w.heap.size w w' := by
  obtain ⟨W, rfl⟩ := Int.eq_ofNat_of_zero_le h0
  have hm0 : MatAt (w.alloc (.cells (List.replicate 49 (I 0)).toArray 163)) w.heap.size (rock0To 0) := by
    unfold MatAt
    rw [rock0To_zero, List.map_replicate]
    exact heap_alloc_new w _
  have hb0 : Below w.heap.size w (w.alloc (.cells (List.replicate 49 (I 0)).toArray 163)) := (Below.refl _ _).alloc (Nat.le_refl _) _
  have HM0 := Lib.hid hm0
  have HB0 := Lib.hid hb0
  clear hm0 hb0
  go_enter Tryd.func102, Tryd.ntmps102
  go_wp2_with fail
  go_loopw [9] (fun i wr => ∃ n : Nat, n ≤ 7 ∧ i = I n ∧ Hid (MatAt wr w.heap.size (rock0To (7 * n))) ∧ Hid (Below w.heap.size w wr)) (fun i _ => 7 - (intOf i).toNat)
  case atStart => exact ⟨0, by omega, rfl, HM0, HB0⟩
  case round =>
    obtain ⟨n, hn, rfl, HM, HB⟩ := hrel
    obtain ⟨wo, rfl⟩ : ∃ wo : World, wo = wr := ⟨_, rfl⟩
    by_cases hlt : n < 7
    · have hlti : (n : Int) < 7 := by omega
      go_wp2_with fail
      go_loopw [12] (fun k wr => ∃ m : Nat, m ≤ 7 ∧ k = I m ∧ Hid (MatAt wr w.heap.size (rock0To (7 * n + m))) ∧ Hid (Below w.heap.size w wr)) (fun k _ => 7 - (intOf k).toNat)
      case atStart => exact ⟨0, by omega, rfl, HM, HB⟩
      case round =>
        obtain ⟨m, hm, rfl, HM, HB⟩ := hrel
        by_cases hlm : m < 7
        · have hlmi : (m : Int) < 7 := by omega
          by_cases hnm : n = m
          · have hb : ((n : Int) != (m : Int)) = false := by simp [hnm]
            have HE := Lib.hid hnm
            clear hnm
            go_wp2_with fail
            go_roundw
            case rel => exact ⟨m + 1, by omega, by go_num, by have e := rock0To_eq m hlm; rw [HE.out, e]; rw [HE.out] at HM; exact HM, HB⟩
            case measure => simp [intOf]; omega
          · have hb : ((n : Int) != (m : Int)) = true := by simp; omega
            have HN := Lib.hid hnm
            clear hnm
            have hc := HM.out.cell n m (by rw [rock0To_len]; omega)
            have hz := HM.out.free (n * 7 + m)
            go_wp2_with fail
            go_roundw
            case rel =>
              refine ⟨m + 1, by omega, by go_num, ?_, Lib.hid (HB.out.setCell (by simp) _)⟩
              have := HM.out.set n m 1048576
              rw [rock0To_ne hlm HN.out] at this
              exact Lib.hid this
            case measure => simp [intOf]; omega
        · have hlmi : ¬ (m : Int) < 7 := by omega
          obtain rfl : m = 7 := by omega
          go_wp2_with fail
          go_roundw
          case rel => exact ⟨n + 1, by omega, by go_num, HM, HB⟩
          case measure => simp [intOf]; omega
    · have hlti : ¬ (n : Int) < 7 := by omega
      obtain rfl : n = 7 := by omega
      have HM := Lib.hid (show MatAt wo w.heap.size (rockTo rock0 0) from by have := HM.out; rw [rock0To_all] at this; exact this)
      go_wp2_with fail
      go_loopw [27] (fun u wr => ∃ n : Nat, n ≤ W ∧ u = I n ∧ Hid (MatAt wr w.heap.size (rockTo rock0 n)) ∧ Hid (Below w.heap.size w wr)) (fun u _ => W - (intOf u).toNat)
      case atStart => exact ⟨0, by omega, rfl, HM, HB⟩
      case round =>
        obtain ⟨n, hn, rfl, HM, HB⟩ := hrel
        by_cases hlt : n < W
        · have hlti : (n : Int) < (W : Int) := by omega
          have hn6 : (n : Int) < 6 := by omega
          have HL := Lib.hid (show (rockTo rock0 n).length = 49 by rw [rockTo_len]; rfl)
          go_wp2_with fail
          refine (leave_any w.heap.size 6 n 99 _ _ HM.out HL.out (by omega) (by omega) (by omega) (by omega)).mono ?_
          rintro e w1 ⟨rfl, hg1, hm1⟩
          have HB1 := Lib.hid (below_grown HB.out hg1 (Nat.le_refl _) HB.out.size)
          have HM1 := Lib.hid hm1
          clear hg1 hm1
          go_wp2_with fail
          refine (leave_any w.heap.size n 6 0 _ _ HM1.out (by rw [leave_len]; exact HL.out) (by omega) (by omega) (by omega) (by omega)).mono ?_
          rintro e w2 ⟨rfl, hg2, hm2⟩
          have HB2 := Lib.hid (below_grown HB1.out hg2 (Nat.le_refl _) HB1.out.size)
          have HM2 := Lib.hid hm2
          clear hg2 hm2
          go_wp2_with fail
          go_roundw
          case rel => exact ⟨n + 1, by omega, by go_num, HM2, HB2⟩
          case measure => simp [intOf]; omega
        · have hlti : ¬ (n : Int) < (W : Int) := by omega
          have hnW : n = W := by omega
          have HM := Lib.hid (show MatAt wr w.heap.size (rock W) from by have := HM.out; rw [hnW] at this; exact this)
          clear hnW
          go_wp2_with fail
          go_ret
          exact ⟨rfl, HM.out, HB.out⟩
end Go.Proofs.YtldcehhhndlhdaaDoor
/- Walks: close. -/
namespace Go.Proofs.YtldcehhhndlhdaaDoor
open Go.RowKit Go.Sort

theorem diagOk_of {ms : List Int} (h : ∀ i, i < 7 → 0 ≤ at_ ms i i) : diagOk ms = true := diagOk_iff.2 h
theorem diagOk_not {ms : List Int} {i : Nat} (hi : i < 7) (h : at_ ms i i < 0) : diagOk ms = false := by
  rw [Bool.eq_false_iff]
  intro hk
  have := diagOk_iff.1 hk i hi
  omega
theorem grown_refl (w : World) (row : Option Nat) : w.grownBy w row := ⟨rfl, rfl, rfl, Nat.le_refl _, fun _ _ _ => rfl⟩

set_option maxRecDepth 20000 in
set_option maxHeartbeats 4000000 in
theorem close_any (B : Nat) (ms : List Int) (w : World) (hm : MatAt w B ms) (hbd : Bd 99 99 ms) :
    Calls Tryd.prog 105 #[.pointer (some ⟨B, 0, none⟩)] w fun e w' => e = .returned (.bool (diagOk (closeM ms))) ∧ w.grownBy w' (some B) ∧ MatAt w' B (closeM ms) := by
  have HM := Lib.hid hm
  have HBD := Lib.hid hbd
  clear hm hbd
  go_enter Tryd.func105, Tryd.ntmps105
  go_wp2_with fail
  go_loopw [7] (fun i wr => ∃ n : Nat, n ≤ 7 ∧ i = I n ∧ Hid (MatAt wr B (closeK ms n)) ∧ Hid (w.grownBy wr (some B))) (fun i _ => 7 - (intOf i).toNat)
  case atStart => exact ⟨0, by omega, rfl, HM, Lib.hid (grown_refl _ _)⟩
  case round =>
    obtain ⟨n, hn, rfl, HM, HG⟩ := hrel
    obtain ⟨wo, rfl⟩ : ∃ wo : World, wo = wr := ⟨_, rfl⟩
    by_cases hlt : n < 7
    · have hlti : (n : Int) < 7 := by omega
      go_wp2_with fail
      go_loopw [10] (fun k wr => ∃ m : Nat, m ≤ 7 ∧ k = I m ∧ Hid (MatAt wr B (closeI n (closeK ms n) m)) ∧ Hid (w.grownBy wr (some B))) (fun k _ => 7 - (intOf k).toNat)
      case atStart => exact ⟨0, by omega, rfl, HM, HG⟩
      case round =>
        obtain ⟨m, hm, rfl, HM, HG⟩ := hrel
        obtain ⟨wp, rfl⟩ : ∃ wp : World, wp = wr := ⟨_, rfl⟩
        by_cases hlm : m < 7
        · have hlmi : (m : Int) < 7 := by omega
          go_wp2_with fail
          go_loopw [13] (fun k wr => ∃ q : Nat, q ≤ 7 ∧ k = I q ∧ Hid (MatAt wr B (closeJ n m (closeI n (closeK ms n) m) q)) ∧ Hid (w.grownBy wr (some B))) (fun k _ => 7 - (intOf k).toNat)
          case atStart => exact ⟨0, by omega, rfl, HM, HG⟩
          case round =>
            obtain ⟨q, hq, rfl, HM, HG⟩ := hrel
            by_cases hlq : q < 7
            · have hlqi : (q : Int) < 7 := by omega
              have hbd := close_small HBD.out (by omega) (by omega) (by omega) (by omega) (k := n) (i := m) (j := q) hlt hlm (by omega)
              have hlen : (closeJ n m (closeI n (closeK ms n) m) q).length = 49 := by rw [closeJ_len, closeI_len, closeK_len]; exact HBD.out.len
              have hstep : closeJ n m (closeI n (closeK ms n) m) (q + 1) = relax n m q (closeJ n m (closeI n (closeK ms n) m) q) := rfl
              generalize closeJ n m (closeI n (closeK ms n) m) q = M at HM hbd hlen hstep
              have hb1 := hbd m n hlm hlt
              have hb2 := hbd n q hlt hlq
              have HL := Lib.hid hlen
              have HS := Lib.hid hstep
              have hc1 := HM.out.cell m n (by rw [hlen]; omega)
              have hc2 := HM.out.cell n q (by rw [hlen]; omega)
              clear hbd hlen hstep
              by_cases g1 : at_ M m n < 1048576
              · by_cases g2 : at_ M n q < 1048576
                · have HR := Lib.hid (show relax n m q M = leave M m q (at_ M m n + at_ M n q) by unfold relax; rw [if_pos ⟨g1, g2⟩])
                  go_wp2_with fail
                  refine wp_region_seg [] [0, 1, 2, 3, 4, 5, 6, 7, 8, 9, 10, 11, 12, 13, 14, 15, 16, 17] [18] 18 (by kernel_rfl) (by kernel_rfl) ?_
                  intro KQ hKQ w1 hb
                  have HM1 := Lib.hid (HM.out.below hb)
                  have HG1 := Lib.hid (grown_trans' HG.out (grown_of_below hb _))
                  have k1 := cell_regrown (keep_cell hb hc1)
                  have k2 := cell_regrown (keep_cell hb hc2)
                  have i1 : IntKind.i64.wrap (at_ M m n + at_ M n q) = at_ M m n + at_ M n q := IntWalk.i64_in _ (by omega)
                  clear hc1 hc2
                  refine seg_last ?_
                  simp only [opsAt, List.filterMap_cons, List.filterMap_nil, List.getElem?_toArray, List.getElem?_cons_succ, List.getElem?_cons_zero]
                  repeat (first | go_big_quiet_step (fail) | quiet_step (fail))
                  refine wpQuiet_nil ?_
                  clear k1 k2 i1
                  go_wp2_with fail
                  refine (leave_any B m q (at_ M m n + at_ M n q) _ _ HM1.out HL.out (by omega) (by omega) (by omega) (by omega)).mono ?_
                  rintro e w2 ⟨rfl, hg2, hm2⟩
                  have HG2 := Lib.hid (grown_trans' HG1.out hg2)
                  have HM2 := Lib.hid hm2
                  clear hg2 hm2
                  go_wp2_with fail
                  go_roundw
                  case rel => exact ⟨q + 1, by omega, by go_num, Lib.hid (by rw [HS.out, HR.out]; exact HM2.out), HG2⟩
                  case measure => simp [intOf]; omega
                · have HR := Lib.hid (show relax n m q M = M by unfold relax; rw [if_neg (by omega)])
                  have g2' : decide (at_ M n q < 1048576) = false := by simpa using g2
                  clear g2
                  go_wp2_with fail
                  go_roundw
                  case rel => exact ⟨q + 1, by omega, by go_num, Lib.hid (by rw [HS.out, HR.out]; exact HM.out), HG⟩
                  case measure => simp [intOf]; omega
              · have HR := Lib.hid (show relax n m q M = M by unfold relax; rw [if_neg (by omega)])
                have g1' : decide (at_ M m n < 1048576) = false := by simpa using g1
                clear g1
                go_wp2_with fail
                go_roundw
                case rel => exact ⟨q + 1, by omega, by go_num, Lib.hid (by rw [HS.out, HR.out]; exact HM.out), HG⟩
                case measure => simp [intOf]; omega
            · have hlqi : ¬ (q : Int) < 7 := by omega
              obtain rfl : q = 7 := by omega
              go_wp2_with fail
              go_roundw
              case rel => exact ⟨m + 1, by omega, by go_num, HM, HG⟩
              case measure => simp [intOf]; omega
        · have hlmi : ¬ (m : Int) < 7 := by omega
          obtain rfl : m = 7 := by omega
          go_wp2_with fail
          go_roundw
          case rel => exact ⟨n + 1, by omega, by go_num, HM, HG⟩
          case measure => simp [intOf]; omega
    · have hlti : ¬ (n : Int) < 7 := by omega
      obtain rfl : n = 7 := by omega
      have HM := Lib.hid (show MatAt wo B (closeM ms) from HM.out)
      have HL := Lib.hid (show (closeM ms).length = 49 by rw [closeM_len]; exact HBD.out.len)
      go_wp2_with fail
      go_loopw [56] (fun k wr => ∃ q : Nat, q ≤ 7 ∧ k = I q ∧ Hid (∀ i, i < q → 0 ≤ at_ (closeM ms) i i) ∧ Hid (MatAt wr B (closeM ms)) ∧ Hid (w.grownBy wr (some B))) (fun k _ => 7 - (intOf k).toNat)
      case atStart => exact ⟨0, by omega, rfl, Lib.hid (fun i hi => by omega), HM, HG⟩
      case round =>
        obtain ⟨q, hq, rfl, HQ, HM, HG⟩ := hrel
        by_cases hlq : q < 7
        · have hlqi : (q : Int) < 7 := by omega
          have hc := HM.out.cell q q (by rw [HL.out]; omega)
          by_cases g : at_ (closeM ms) q q < 0
          · have HD := Lib.hid (diagOk_not hlq g)
            go_wp2_with fail
            go_ret
            exact ⟨by rw [HD.out]; rfl, HG.out, HM.out⟩
          · have HNN := Lib.hid (show 0 ≤ at_ (closeM ms) q q by omega)
            go_wp2_with fail
            go_roundw
            case rel =>
              refine ⟨q + 1, by omega, by go_num, Lib.hid (fun i hi => ?_), HM, HG⟩
              by_cases e : i = q
              · subst e; exact HNN.out
              · exact HQ.out i (by omega)
            case measure => simp [intOf]; omega
        · have hlqi : ¬ (q : Int) < 7 := by omega
          obtain rfl : q = 7 := by omega
          have HD := Lib.hid (diagOk_of HQ.out)
          go_wp2_with fail
          go_ret
          exact ⟨by rw [HD.out]; rfl, HG.out, HM.out⟩
end Go.Proofs.YtldcehhhndlhdaaDoor
