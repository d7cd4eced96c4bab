/- The iterator slices.Backward over points: its contract. -/
import Derived.Test.YtbddaemekgflmaaW9
import Derived.RangeFuncNested
import Derived.RangeFuncBound
import Derived.RangeFuncCalls
import Derived.RangeFuncLeaves
import Derived.RangeFuncBox
import Derived.OwnWalkIn
import Derived.TacticsInMore
import Derived.LoopNIn
import Derived.LoopIn
namespace Go.Proofs.Ytbddaemekgflmaa
open Go.RowKit Go.Sort
attribute [local go_sem] Oper.semAt_some

/-- What has come when k rounds are over: the numbers of the last k points, the last one first. -/
def bk (n k : Nat) : List (Fin n) := (List.finRange n).reverse.take k
theorem bk_succ (n k : Nat) (h : k < n) : bk n (k + 1) = bk n k ++ [⟨n - 1 - k, by omega⟩] := by
  unfold bk
  rw [List.take_succ_eq_append_getElem (by simpa using h)]
  congr 2
  simp [List.getElem_reverse]
theorem bk_length (n k : Nat) (h : k ≤ n) : (bk n k).length = k := by simp [bk, h]
def encP (ps : List Pt) (x : Fin ps.length) : Array Value := #[I ((x.1 : Nat) : Int), .agg #[I ps[x.1].lo, I ps[x.1].hi, I ps[x.1].cost]]

/-- What a round keeps: what lay below n₀, and the iterator's own box. -/
def KpB (n₀ Bs : Nat) (W W' : World) : Prop := Below n₀ W W' ∧ ∀ v, W.cell? ⟨Bs, 0, none⟩ = some v → W'.cell? ⟨Bs, 0, none⟩ = some v
theorem KpB.trans {n₀ Bs : Nat} {A B C : World} (h : KpB n₀ Bs A B) (k : KpB n₀ Bs B C) : KpB n₀ Bs A C := ⟨h.1.trans k.1, fun v hv => k.2 v (h.2 v hv)⟩
theorem KpB.putObj {n₀ Bs : Nat} {w : World} (hn : n₀ ≤ w.heap.size) (hB : Bs < w.heap.size) (W : World) (l : Nat) (o o' : Obj) (hl : w.heap.size ≤ l) (h : W.heap[l]? = some o) (ho : o.isCells = false) (hw : o.isWalk = false) : KpB n₀ Bs W (W.putObj l o') :=
  ⟨belowK_b hn W l o o' hl h ho hw, fun v hv => by
    rw [World.cell?_of_block (w := W) (World.putObj_heap_other (by show Bs ≠ l; omega))]; exact hv⟩

set_option maxRecDepth 100000 in
set_option maxHeartbeats 2000000 in
theorem back1_in (F : Fence) (n : Nat) (h8 : F.fn 87) (hro : F.round = none) (hn : 1 ≤ n) (l Bs n₀ b off cap : Nat) (ps : List Pt) (hlen : ps.length ≤ 1000) (hb : b < n₀) (J Jx : List (Fin ps.length) → World → Prop)
    (hY : ∀ pre x W, J pre W → pre.length < ps.length → YieldAt F (n - 1) Try.prog l (encP ps x) W fun e W' =>
      (e = .returned (.bool true) ∧ J (pre ++ [x]) W' ∧ KpB n₀ Bs W W') ∨ (e = .returned (.bool false) ∧ Jx (pre ++ [x]) W'))
    (W : World) (hBs : W.cell? ⟨Bs, 0, none⟩ = some (.slice (some ⟨b, off, none⟩) ps.length cap))
    (hc : ∀ j (hj : j < ps.length), W.cell? ⟨b, off + j * 3, none⟩ = some (I ps[j].lo) ∧ W.cell? ⟨b, off + j * 3 + 1, none⟩ = some (I ps[j].hi) ∧ W.cell? ⟨b, off + j * 3 + 2, none⟩ = some (I ps[j].cost)) (h0 : J [] W) :
    CallsIn F n Try.prog 87 #[.func (.yield l) #[] #[], .pointer (some ⟨Bs, 0, none⟩)] W fun e W' => (∃ v, e = .returned v) ∧
      ((∃ ys, ys = bk ps.length ps.length ∧ J ys W') ∨ (∃ pre, (∃ k, k ≤ ps.length ∧ pre = bk ps.length k) ∧ Jx pre W')) := by
  have HC := Lib.hid hc
  clear hc
  refine callsIn_of_wp Try.func87 rfl h8 ?_ hro
  simp only [Try.ntmps87, List.size_toArray, List.length_cons, List.length_nil, Nat.reduceAdd, Nat.reduceSub, Array.replicate_succ, Array.replicate_zero, List.push_toArray, List.append_toArray, List.nil_append, List.cons_append]
  gi_wp2
  gi_loopw [3] (fun i wr => ∃ k : Nat, k ≤ ps.length ∧ i = I ((ps.length : Int) - 1 - k) ∧ J (bk ps.length k) wr ∧ KpB n₀ Bs W wr)
    (fun i _ => (intOf i + 1).toNat)
  case atStart => exact ⟨0, Nat.zero_le _, by simp, h0, Below.refl _ _, fun _ h => h⟩
  case round =>
    obtain ⟨k, hk, rfl, hJs, hnx⟩ := hrel
    have hs := hnx.2 _ hBs
    by_cases hlt : k < ps.length
    · obtain ⟨i, hi⟩ : ∃ i : Nat, i = ps.length - 1 - k := ⟨_, rfl⟩
      have hil : i < ps.length := by omega
      have hic : ((ps.length : Int) - 1 - k) = (i : Int) := by omega
      rw [hic]
      obtain ⟨c1, c2, c3⟩ := HC.out i hil
      rw [← hnx.1.cell (p := ⟨b, _, none⟩) hb] at c1 c2 c3
      obtain ⟨fn, tmps, assign, body, hy, hR⟩ := hY _ ⟨i, hil⟩ wr hJs (by rw [bk_length _ _ hk]; exact hlt)
      dsimp only [encP] at hy
      have HI := Lib.hid hi
      have HIC := Lib.hid hic
      clear hi hic
      gi_wp2
      refine hR.mono ?_
      rintro e W3 (⟨rfl, hJ3, hk3⟩ | ⟨rfl, hJx3⟩)
      · gi_wp2
        go_roundw
        case rel => exact ⟨k + 1, by omega, by have := HI.out; congr 1; omega, by
          have e : (⟨i, hil⟩ : Fin ps.length) = ⟨ps.length - 1 - k, by omega⟩ := by simp [HI.out]
          rw [bk_succ _ _ hlt, ← e]; exact hJ3, hnx.trans hk3⟩
        case measure => first | (simp [intOf]; done) | (simp [intOf]; omega)
      · gi_wp2
        refine bodyPost_ret (results_none rfl _ _ _) rfl ?_
        exact ⟨⟨_, rfl⟩, .inr ⟨_, ⟨k + 1, by omega, by
          have e : (⟨i, hil⟩ : Fin ps.length) = ⟨ps.length - 1 - k, by omega⟩ := by simp [HI.out]
          rw [bk_succ _ _ hlt, ← e]⟩, hJx3⟩⟩
    · obtain rfl : k = ps.length := by omega
      gi_wp2
      go_end0
      exact ⟨⟨_, rfl⟩, .inl ⟨_, rfl, hJs⟩⟩

set_option maxHeartbeats 1000000 in
theorem back_any (A : Option Addr) (len cap : Nat) (w : World) :
    Calls Try.prog 84 #[.slice A len cap] w fun e w' => e = .returned (.func (.func 87) #[] #[.pointer (some ⟨w.heap.size, 0, none⟩)]) ∧ w' = w.alloc (.cells #[.slice A len cap] 22) := by
  go_enter Try.func84, Try.ntmps84
  go_wp2
  go_ret
  exact ⟨rfl, rfl⟩

/-- A call's walk, in the form that lets it range over a function. -/
theorem calls_of_wp_marks {P : Program} {f : FuncId} {fn : Func} {c : Code} {args : Array Value} {w : World} {R : Ending → World → Prop}
    (hf : P.funcs[f]? = some fn) (hb : fn.body = some c)
    (h : c.wp P (bodyPostM Fence.wide 5 P fn R) { tmps := args ++ Array.replicate (fn.ntmps - args.size) undef, defers := [] } w) : Calls P f args w R :=
  callsIn_wide.1 (callsIn_of_wp_marks (n := 5) hf hb trivial (wpIn_wide.2 h) rfl)

/-- The iterator over a line's points, at a loop body that keeps what lay below n₀. -/
theorem back_stops (Bs n₀ : Nat) (v : Value) (ps : List Pt) (hlen : ps.length ≤ 1000) (hpos : 0 < ps.length) (w : World) (hc : w.cell? ⟨Bs, 0, none⟩ = some v) (hI : Pts w v ps) (hb : ∀ b o n c, v = .slice (some ⟨b, o, none⟩) n c → b < n₀) :
    SeqStopsK Fence.wide 4 Try.prog 87 #[.pointer (some ⟨Bs, 0, none⟩)] (encP ps) (KpB n₀ Bs) (fun ys => ys = bk ps.length ps.length) (fun pre => ∃ k, k ≤ ps.length ∧ pre = bk ps.length k) ps.length w := fun l J Jx W hW _ _ hY h0 => by
  obtain ⟨A, cap, rfl, _, _, hcell⟩ := hI.open_
  obtain ⟨b, o, rfl, hbl, hcell⟩ := hcell hpos
  have hbn := hb b o _ _ rfl
  refine back1_in Fence.wide 4 trivial rfl (by omega) l Bs n₀ b o cap ps hlen hbn J Jx hY W (keep_cell hW hc) (fun j hj => ?_) h0
  obtain ⟨c1, c2, c3⟩ := hcell j hj
  exact ⟨keep_cell hW c1, keep_cell hW c2, keep_cell hW c3⟩
end Go.Proofs.Ytbddaemekgflmaa
