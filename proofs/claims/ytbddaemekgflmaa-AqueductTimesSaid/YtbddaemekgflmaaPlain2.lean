/- More plain words of layer 6: the clash, the flows. No program here. -/
import Derived.Test.YtbddaemekgflmaaPlain
namespace Go.Proofs.Ytbddaemekgflmaa
/-- The greatest point a below k past which less can flow than flows past b in any case. -/
def clA (ps : List Pt) (b : Nat) : Nat → Option Nat
  | 0 => none
  | k + 1 => if (ps.getD k default).hi < (ps.getD b default).lo then some k else clA ps b k
/-- The first pair that contradicts each other, from the m last points on. -/
def clB (ps : List Pt) : Nat → Option (Nat × Nat)
  | 0 => none
  | m + 1 => match clA ps (ps.length - (m + 1)) (ps.length - (m + 1)) with
    | some a => some (a, ps.length - (m + 1))
    | none => clB ps m
def clashO (d : DLine) : Option (Nat × Nat) := clB d.pts d.pts.length
/-- At most, and at least, so much flows past a point. -/
def hiPre (ps : List Pt) (k : Nat) : Int := (ps.take k).foldl (fun m p => min m p.hi) 99
def loSuf (ps : List Pt) (k : Nat) : Int := (ps.drop k).foldr (fun p m => max m p.lo) 0
theorem hiPre_succ (ps : List Pt) (k : Nat) (h : k < ps.length) : hiPre ps (k + 1) = min (hiPre ps k) ps[k].hi := by
  unfold hiPre; rw [List.take_succ_eq_append_getElem h, List.foldl_append]; rfl
theorem loSuf_succ (ps : List Pt) (k : Nat) (h : k < ps.length) : loSuf ps k = max (loSuf ps (k + 1)) ps[k].lo := by
  unfold loSuf; rw [List.drop_eq_getElem_cons h]; rfl
def flowAt (d : DLine) (i : Nat) : Int × Int := (loSuf d.pts i, hiPre d.pts (i + 1))
def flowsL (d : DLine) : List (Int × Int) := (List.range d.pts.length).map (flowAt d)
/-- The spans while the lower ends are filled in from the end on: those from j on are there. -/
def flowsTo (d : DLine) (j : Nat) : List (Int × Int) := (List.range d.pts.length).map fun i => (if j ≤ i then loSuf d.pts i else 0, hiPre d.pts (i + 1))
def spCells (l : List (Int × Int)) : List (Int × Int) := l
theorem hiPre_bd {d : DLine} (h : valid d = true) (k : Nat) : 0 ≤ hiPre d.pts k ∧ hiPre d.pts k ≤ 99 := by
  induction k with
  | zero => simp [hiPre]
  | succ k ih =>
    by_cases hk : k < d.pts.length
    · rw [hiPre_succ _ _ hk]
      have := (valid_spec h).2.2.1 _ (List.getElem_mem hk)
      omega
    · have : hiPre d.pts (k + 1) = hiPre d.pts k := by
        unfold hiPre; rw [List.take_of_length_le (by omega), List.take_of_length_le (by omega)]
      rw [this]; exact ih
theorem loSuf_bd {d : DLine} (h : valid d = true) : ∀ m k, k + m = d.pts.length → 0 ≤ loSuf d.pts k ∧ loSuf d.pts k ≤ 99
  | 0, k, e => by
    have : loSuf d.pts k = 0 := by unfold loSuf; rw [List.drop_eq_nil_of_le (by omega)]; rfl
    omega
  | m + 1, k, e => by
    have ih := loSuf_bd h m (k + 1) (by omega)
    rw [loSuf_succ _ _ (show k < d.pts.length by omega)]
    have := (valid_spec h).2.2.1 _ (List.getElem_mem (show k < d.pts.length by omega))
    omega
end Go.Proofs.Ytbddaemekgflmaa
