/- Walk of Average. -/
import Derived.Test.YtldcehhhndlhdaaC9
import Derived.Test.YtldcehhhndlhdaaC2
import Derived.RangeFuncNested
import Derived.RangeFuncBound
import Derived.RangeFuncCalls
import Derived.RangeFuncLeaves
import Derived.RangeFuncBox
import Derived.OwnWalkIn
import Derived.TacticsInMore
import Derived.LoopNIn
import Derived.LoopIn
import Derived.Test.YtldcehhhndlhdaaC4
namespace Go.Proofs.Ytldcehhhndlhdaa
open Go.RowKit Go.Sort

/-- A fraction in lowest terms. -/
def redR (num den : Int) : Int × Int := (num / (Nat.gcd num.toNat den.toNat : Nat), den / (Nat.gcd num.toNat den.toNat : Nat))
/-- What Average returns. -/
def avgR (d : DLine) (f t : Int) : (Int × Int) × Int := if askE d (someOf d f t) = 0 then (redR (avgN d f.toNat t.toNat) (oddsOf d f.toNat t.toNat), 0) else ((0, 0), askE d (someOf d f t))
theorem sumI_pos : ∀ (l : List Int), l ≠ [] → (∀ x ∈ l, 1 ≤ x) → 1 ≤ sumI l
  | [], h, _ => absurd rfl h
  | [x], _, h => by have := h x (by simp); simp [sumI]; omega
  | x :: y :: l, _, h => by
    have h1 := h x (by simp)
    have h2 := sumI_pos (y :: l) (by simp) (fun z hz => h z (by simp at hz ⊢; right; exact hz))
    simp only [sumI] at h2 ⊢
    omega
theorem oddsOf_pos {d : DLine} (h : valid d = true) {f t : Nat} (hf : f < t) (ht : t ≤ d.odds.length) : 1 ≤ oddsOf d f t ∧ oddsOf d f t ≤ 63 := by
  have h3 := (valid_spec h).1
  have h2 := oddsOf_bd d f t (fun x hx => by have := (valid_spec h).2.2.2 x hx; omega)
  refine ⟨?_, by omega⟩
  refine sumI_pos _ ?_ (fun x hx => ((valid_spec h).2.2.2 x (List.mem_of_mem_drop (List.mem_of_mem_take hx))).1)
  intro he
  have := congrArg List.length he
  simp at this
  omega

end Go.Proofs.Ytldcehhhndlhdaa
/- The iterator slices.Backward over points: its contract. -/
namespace Go.Proofs.Ytldcehhhndlhdaa
open Go.RowKit Go.Sort
attribute [local go_sem] Oper.semAt_some

/-- What has come when k rounds are over: the numbers of the last k points, the last one first. -/
def bk (n k : Nat) : List (Fin n) := (List.finRange n).reverse.take k
theorem bk_succ (n k : Nat) (h : k < n) : bk n (k + 1) = bk n k ++ [⟨n - 1 - k, by omega⟩] := by
  unfold bk
  rw [List.take_succ_eq_append_getElem (by simpa using h)]
  congr 2
  simp [List.getElem_reverse]
theorem bk_length (n k : Nat) (h : k ≤ n) : (bk n k).length = k := by simp [bk, h]
def encP (ps : List Pt) (x : Fin ps.length) : Array Value := #[I ((x.1 : Nat) : Int), .agg #[I ps[x.1].lo, I ps[x.1].hi, I ps[x.1].cost]]

/-- What a round keeps: what lay below n₀, and the iterator's own box. -/
def KpB (n₀ Bs : Nat) (W W' : World) : Prop := Below n₀ W W' ∧ ∀ v, W.cell? ⟨Bs, 0, none⟩ = some v → W'.cell? ⟨Bs, 0, none⟩ = some v
theorem KpB.trans {n₀ Bs : Nat} {A B C : World} (h : KpB n₀ Bs A B) (k : KpB n₀ Bs B C) : KpB n₀ Bs A C := ⟨h.1.trans k.1, fun v hv => k.2 v (h.2 v hv)⟩
theorem KpB.putObj {n₀ Bs : Nat} {w : World} (hn : n₀ ≤ w.heap.size) (hB : Bs < w.heap.size) (W : World) (l : Nat) (o o' : Obj) (hl : w.heap.size ≤ l) (h : W.heap[l]? = some o) (ho : o.isCells = false) (hw : o.isWalk = false) : KpB n₀ Bs W (W.putObj l o') :=
  ⟨belowK_b hn W l o o' hl h ho hw, fun v hv => by
    rw [World.cell?_of_block (w := W) (World.putObj_heap_other (by show Bs ≠ l; omega))]; exact hv⟩

set_option maxRecDepth 100000 in
set_option maxHeartbeats 2000000 in
theorem back1_in (F : Fence) (n : Nat) (h8 : F.fn 102) (hro : F.round = none) (hn : 1 ≤ n) (l Bs n₀ b off cap : Nat) (ps : List Pt) (hlen : ps.length ≤ 1000) (hb : b < n₀) (J Jx : List (Fin ps.length) → World → Prop)
    (hY : ∀ pre x W, J pre W → pre.length < ps.length → YieldAt F (n - 1) Try.prog l (encP ps x) W fun e W' =>
      (e = .returned (.bool true) ∧ J (pre ++ [x]) W' ∧ KpB n₀ Bs W W') ∨ (e = .returned (.bool false) ∧ Jx (pre ++ [x]) W'))
    (W : World) (hBs : W.cell? ⟨Bs, 0, none⟩ = some (.slice (some ⟨b, off, none⟩) ps.length cap))
    (hc : ∀ j (hj : j < ps.length), W.cell? ⟨b, off + j * 3, none⟩ = some (I ps[j].lo) ∧ W.cell? ⟨b, off + j * 3 + 1, none⟩ = some (I ps[j].hi) ∧ W.cell? ⟨b, off + j * 3 + 2, none⟩ = some (I ps[j].cost)) (h0 : J [] W) :
    CallsIn F n Try.prog 102 #[.func (.yield l) #[] #[], .pointer (some ⟨Bs, 0, none⟩)] W fun e W' => (∃ v, e = .returned v) ∧
      ((∃ ys, ys = bk ps.length ps.length ∧ J ys W') ∨ (∃ pre, (∃ k, k ≤ ps.length ∧ pre = bk ps.length k) ∧ Jx pre W')) := by
  have HC := Lib.hid hc
  clear hc
  refine callsIn_of_wp Try.func102 rfl h8 ?_ hro
  simp only [Try.ntmps102, List.size_toArray, List.length_cons, List.length_nil, Nat.reduceAdd, Nat.reduceSub, Array.replicate_succ, Array.replicate_zero, List.push_toArray, List.append_toArray, List.nil_append, List.cons_append]
  gi_wp2
  gi_loopw [3] (fun i wr => ∃ k : Nat, k ≤ ps.length ∧ i = I ((ps.length : Int) - 1 - k) ∧ J (bk ps.length k) wr ∧ KpB n₀ Bs W wr)
    (fun i _ => (intOf i + 1).toNat)
  case atStart => exact ⟨0, Nat.zero_le _, by simp, h0, Below.refl _ _, fun _ h => h⟩
  case round =>
    obtain ⟨k, hk, rfl, hJs, hnx⟩ := hrel
    have hs := hnx.2 _ hBs
    by_cases hlt : k < ps.length
    · obtain ⟨i, hi⟩ : ∃ i : Nat, i = ps.length - 1 - k := ⟨_, rfl⟩
      have hil : i < ps.length := by omega
      have hic : ((ps.length : Int) - 1 - k) = (i : Int) := by omega
      rw [hic]
      obtain ⟨c1, c2, c3⟩ := HC.out i hil
      rw [← hnx.1.cell (p := ⟨b, _, none⟩) hb] at c1 c2 c3
      obtain ⟨fn, tmps, assign, body, hy, hR⟩ := hY _ ⟨i, hil⟩ wr hJs (by rw [bk_length _ _ hk]; exact hlt)
      dsimp only [encP] at hy
      have HI := Lib.hid hi
      have HIC := Lib.hid hic
      clear hi hic
      gi_wp2
      refine hR.mono ?_
      rintro e W3 (⟨rfl, hJ3, hk3⟩ | ⟨rfl, hJx3⟩)
      · gi_wp2
        go_roundw
        case rel => exact ⟨k + 1, by omega, by have := HI.out; congr 1; omega, by
          have e : (⟨i, hil⟩ : Fin ps.length) = ⟨ps.length - 1 - k, by omega⟩ := by simp [HI.out]
          rw [bk_succ _ _ hlt, ← e]; exact hJ3, hnx.trans hk3⟩
        case measure => first | (simp [intOf]; done) | (simp [intOf]; omega)
      · gi_wp2
        refine bodyPost_ret (results_none rfl _ _ _) rfl ?_
        exact ⟨⟨_, rfl⟩, .inr ⟨_, ⟨k + 1, by omega, by
          have e : (⟨i, hil⟩ : Fin ps.length) = ⟨ps.length - 1 - k, by omega⟩ := by simp [HI.out]
          rw [bk_succ _ _ hlt, ← e]⟩, hJx3⟩⟩
    · obtain rfl : k = ps.length := by omega
      gi_wp2
      go_end0
      exact ⟨⟨_, rfl⟩, .inl ⟨_, rfl, hJs⟩⟩

set_option maxHeartbeats 1000000 in
theorem back_any (A : Option Addr) (len cap : Nat) (w : World) :
    Calls Try.prog 75 #[.slice A len cap] w fun e w' => e = .returned (.func (.func 102) #[] #[.pointer (some ⟨w.heap.size, 0, none⟩)]) ∧ w' = w.alloc (.cells #[.slice A len cap] 22) := by
  go_enter Try.func75, Try.ntmps75
  go_wp2
  go_ret
  exact ⟨rfl, rfl⟩

/-- A call's walk, in the form that lets it range over a function. -/
theorem calls_of_wp_marks {P : Program} {f : FuncId} {fn : Func} {c : Code} {args : Array Value} {w : World} {R : Ending → World → Prop}
    (hf : P.funcs[f]? = some fn) (hb : fn.body = some c)
    (h : c.wp P (bodyPostM Fence.wide 5 P fn R) { tmps := args ++ Array.replicate (fn.ntmps - args.size) undef, defers := [] } w) : Calls P f args w R :=
  callsIn_wide.1 (callsIn_of_wp_marks (n := 5) hf hb trivial (wpIn_wide.2 h) rfl)

/-- The iterator over a line's points, at a loop body that keeps what lay below n₀. -/
theorem back_stops (Bs n₀ : Nat) (v : Value) (ps : List Pt) (hlen : ps.length ≤ 1000) (hpos : 0 < ps.length) (w : World) (hc : w.cell? ⟨Bs, 0, none⟩ = some v) (hI : Pts w v ps) (hb : ∀ b o n c, v = .slice (some ⟨b, o, none⟩) n c → b < n₀) :
    SeqStopsK Fence.wide 4 Try.prog 102 #[.pointer (some ⟨Bs, 0, none⟩)] (encP ps) (KpB n₀ Bs) (fun ys => ys = bk ps.length ps.length) (fun pre => ∃ k, k ≤ ps.length ∧ pre = bk ps.length k) ps.length w := fun l J Jx W hW _ _ hY h0 => by
  obtain ⟨A, cap, rfl, _, _, hcell⟩ := hI.open_
  obtain ⟨b, o, rfl, hbl, hcell⟩ := hcell hpos
  have hbn := hb b o _ _ rfl
  refine back1_in Fence.wide 4 trivial rfl (by omega) l Bs n₀ b o cap ps hlen hbn J Jx hY W (keep_cell hW hc) (fun j hj => ?_) h0
  obtain ⟨c1, c2, c3⟩ := hcell j hj
  exact ⟨keep_cell hW c1, keep_cell hW c2, keep_cell hW c3⟩
end Go.Proofs.Ytldcehhhndlhdaa
/- More plain words of layer 6: the clash, the flows. No program here. -/
namespace Go.Proofs.Ytldcehhhndlhdaa
/-- The greatest point a below k past which less can flow than flows past b in any case. -/
def clA (ps : List Pt) (b : Nat) : Nat → Option Nat
  | 0 => none
  | k + 1 => if (ps.getD k default).hi < (ps.getD b default).lo then some k else clA ps b k
/-- The first pair that contradicts each other, from the m last points on. -/
def clB (ps : List Pt) : Nat → Option (Nat × Nat)
  | 0 => none
  | m + 1 => match clA ps (ps.length - (m + 1)) (ps.length - (m + 1)) with
    | some a => some (a, ps.length - (m + 1))
    | none => clB ps m
def clashO (d : DLine) : Option (Nat × Nat) := clB d.pts d.pts.length
/-- At most, and at least, so much flows past a point. -/
def hiPre (ps : List Pt) (k : Nat) : Int := (ps.take k).foldl (fun m p => min m p.hi) 99
def loSuf (ps : List Pt) (k : Nat) : Int := (ps.drop k).foldr (fun p m => max m p.lo) 0
theorem hiPre_succ (ps : List Pt) (k : Nat) (h : k < ps.length) : hiPre ps (k + 1) = min (hiPre ps k) ps[k].hi := by
  unfold hiPre; rw [List.take_succ_eq_append_getElem h, List.foldl_append]; rfl
theorem loSuf_succ (ps : List Pt) (k : Nat) (h : k < ps.length) : loSuf ps k = max (loSuf ps (k + 1)) ps[k].lo := by
  unfold loSuf; rw [List.drop_eq_getElem_cons h]; rfl
def flowAt (d : DLine) (i : Nat) : Int × Int := (loSuf d.pts i, hiPre d.pts (i + 1))
def flowsL (d : DLine) : List (Int × Int) := (List.range d.pts.length).map (flowAt d)
/-- The spans while the lower ends are filled in from the end on: those from j on are there. -/
def flowsTo (d : DLine) (j : Nat) : List (Int × Int) := (List.range d.pts.length).map fun i => (if j ≤ i then loSuf d.pts i else 0, hiPre d.pts (i + 1))
def spCells (l : List (Int × Int)) : List (Int × Int) := l
theorem hiPre_bd {d : DLine} (h : valid d = true) (k : Nat) : 0 ≤ hiPre d.pts k ∧ hiPre d.pts k ≤ 99 := by
  induction k with
  | zero => simp [hiPre]
  | succ k ih =>
    by_cases hk : k < d.pts.length
    · rw [hiPre_succ _ _ hk]
      have := (valid_spec h).2.2.1 _ (List.getElem_mem hk)
      omega
    · have : hiPre d.pts (k + 1) = hiPre d.pts k := by
        unfold hiPre; rw [List.take_of_length_le (by omega), List.take_of_length_le (by omega)]
      rw [this]; exact ih
theorem loSuf_bd {d : DLine} (h : valid d = true) : ∀ m k, k + m = d.pts.length → 0 ≤ loSuf d.pts k ∧ loSuf d.pts k ≤ 99
  | 0, k, e => by
    have : loSuf d.pts k = 0 := by unfold loSuf; rw [List.drop_eq_nil_of_le (by omega)]; rfl
    omega
  | m + 1, k, e => by
    have ih := loSuf_bd h m (k + 1) (by omega)
    rw [loSuf_succ _ _ (show k < d.pts.length by omega)]
    have := (valid_spec h).2.2.1 _ (List.getElem_mem (show k < d.pts.length by omega))
    omega
end Go.Proofs.Ytldcehhhndlhdaa
/- Walks of clash, Clash, lost. -/
namespace Go.Proofs.Ytldcehhhndlhdaa
open Go.RowKit Go.Sort

/-- A struct of two integers in the call's own box: what two stores leave. -/
theorem res2 {w : World} {g : Nat} {u0 u1 : Value} (h0 : w.cell? ⟨g, 0, none⟩ = some u0) (h1 : w.cell? ⟨g, 1, none⟩ = some u1) :
    (∀ v1, (w.setCell ⟨g, 0, none⟩ v1).cell? ⟨g, 0, none⟩ = some v1) ∧ ∀ v1 v2, ((w.setCell ⟨g, 0, none⟩ v1).setCell ⟨g, 1, none⟩ v2).cell? ⟨g, 1, none⟩ = some v2 :=
  ⟨fun _ => World.cell?_setCell_same _ _ _ h0, fun _ _ => World.cell?_setCell_same _ _ _ (by rw [World.cell?_setCell_other _ _ _ _ (by simp)]; exact h1)⟩

/-- A box of two cells, that may be written. -/
structure Box2 (w : World) (B : Nat) (u0 u1 : Value) : Prop where
  c0 : w.cell? ⟨B, 0, none⟩ = some u0
  c1 : w.cell? ⟨B, 1, none⟩ = some u1
  f0 : w.frozen? ⟨B, 0, none⟩ = false
  f1 : w.frozen? ⟨B, 1, none⟩ = false
theorem Box2.lt {w : World} {B : Nat} {u0 u1 : Value} (h : Box2 w B u0 u1) : B < w.heap.size := World.block_lt_of_cell? w _ h.c0
theorem Box2.keep {w w' : World} {B : Nat} {u0 u1 : Value} (h : Box2 w B u0 u1) (hb : Below w.heap.size w w') : Box2 w' B u0 u1 :=
  ⟨keep_cell hb h.c0, keep_cell hb h.c1, by rw [(bcell hb).2 _ _ h.lt]; exact h.f0, by rw [(bcell hb).2 _ _ h.lt]; exact h.f1⟩
theorem Box2.new (w : World) (u0 u1 : Value) (T : TypeId) : Box2 (w.alloc (.cells #[u0, u1] T)) w.heap.size u0 u1 :=
  ⟨box_cell w _ _ 0 rfl, box_cell w _ _ 1 rfl, by simp [go_sem], by simp [go_sem]⟩
theorem Box2.old {w : World} {B : Nat} {u0 u1 : Value} (h : Box2 w B u0 u1) (o : Obj) : Box2 (w.alloc o) B u0 u1 := h.keep ((Below.refl _ _).alloc (Nat.le_refl _) _)
theorem Box2.at_ {w : World} {B B' : Nat} {u0 u1 : Value} (h : Box2 w B u0 u1) (e : B = B') : Box2 w B' u0 u1 := e ▸ h

def pairV : Option (Nat × Nat) → Value
  | none => .agg #[I 0, I 0]
  | some (a, b) => .agg #[I a, I b]

set_option maxRecDepth 20000 in
set_option maxHeartbeats 2000000 in
theorem clash_any (v : Value) (d : DLine) (w : World) (hv : LineAt w v d) (hlen : d.pts.length ≤ 1000) :
    Calls Try.prog 74 #[v] w fun e w' => e = .returned (.tuple #[pairV (clashO d), .bool (clashO d).isSome]) ∧ Below w.heap.size w w' := by
  obtain ⟨pv, ov, rfl, hp, ho⟩ := hv
  obtain ⟨A, c, rfl, hnc, hcm, hcell⟩ := hp.open_
  clear hp ho
  have HC := Lib.hid hcell
  clear hcell
  go_enter Try.func74, Try.ntmps74
  go_wp2_with fail
  go_loopw [9] (fun i wr => ∃ b : Nat, b ≤ d.pts.length ∧ i = I b ∧ Hid (clB d.pts (d.pts.length - b) = clashO d) ∧ Box2 wr w.heap.size (.slice A d.pts.length c) ov ∧ Box2 wr (w.heap.size + 1) (I 0) (I 0) ∧ Below w.heap.size w wr) (fun i _ => d.pts.length - (intOf i).toNat)
  case atStart => exact ⟨0, by omega, rfl, Lib.hid rfl, (Box2.new w _ _ _).old _, (Box2.new _ _ _ _).at_ (by simp), ((Below.refl _ _).alloc (Nat.le_refl _) _).alloc (by simp) _⟩
  case round =>
    obtain ⟨b, hb, rfl, hcl, hb1, hb2, hbw⟩ := hrel
    by_cases hbl : b < d.pts.length
    · obtain ⟨e1, e2, e3, e4⟩ := hb1
      obtain ⟨e5, e6, e7, e8⟩ := hb2
      have HW := Lib.hid hbw
      clear hbw
      go_wp2_with fail
      obtain ⟨wo, rfl⟩ : ∃ wo : World, wo = wr := ⟨_, rfl⟩
      have HB1 := Lib.hid (Box2.mk e1 e2 e3 e4)
      have HB2 := Lib.hid (Box2.mk e5 e6 e7 e8)
      clear e1 e2 e3 e4 e5 e6 e7 e8
      go_loopw [5] (fun i wr => ∃ k : Nat, k ≤ b ∧ i = I ((k : Int) - 1) ∧ Hid (clA d.pts b k = clA d.pts b b) ∧ Below wo.heap.size wo wr) (fun i _ => (intOf i + 1).toNat)
      case atStart => exact ⟨b, by omega, by rfl, Lib.hid rfl, Below.refl _ _⟩
      case round =>
        obtain ⟨k, hk, rfl, hca, hbw2⟩ := hrel
        obtain ⟨e1, e2, e3, e4⟩ := HB1.out.keep hbw2
        obtain ⟨e5, e6, e7, e8⟩ := HB2.out.keep hbw2
        by_cases hk0 : 0 < k
        · obtain ⟨a, rfl⟩ : ∃ a, k = a + 1 := ⟨k - 1, by omega⟩
          obtain ⟨B, o, rfl, hBl, hcell⟩ := HC.out (by omega)
          obtain ⟨x1, _, _⟩ := hcell b hbl
          obtain ⟨_, y2, _⟩ := hcell a (by omega)
          have hww := bto HW.out hbw2
          have x1' := keep_cell hww x1
          have y2' := keep_cell hww y2
          have k0 := cell_regrown e1
          have k1 := cell_regrown x1'
          have k2 := cell_regrown y2'
          have hka : ((a + 1 : Nat) : Int) - 1 = (a : Int) := by omega
          rw [hka]
          have HW2 := Lib.hid hbw2
          have HE := Lib.hid (And.intro e5 (And.intro e6 (And.intro e7 (And.intro e8 e1))))
          clear hka x1 y2 x1' y2' hcell hbw2 hww e1 e2 e3 e4 e5 e6 e7 e8
          go_wp2_with fail
          refine wp_region_ext (by kernel_rfl) (by kernel_rfl) ?_
          repeat (first | go_big_quiet_step (fail) | quiet_step (fail))
          refine wpQuiet_nil ?_
          clear k0 k1 k2
          intro w3 hb3
          by_cases hlt : d.pts[a].hi < d.pts[b].lo
          · obtain ⟨e5, e6, e7, e8, e1⟩ := HE.out
            have e5 := keep_cell hb3 e5
            have e6 := keep_cell hb3 e6
            have e7 : w3.frozen? ⟨w.heap.size + 1, 0, none⟩ = false := by rw [(bcell hb3).2 _ _ (World.block_lt_of_cell? wr _ HE.out.1)]; exact HE.out.2.2.1
            have e8 : w3.frozen? ⟨w.heap.size + 1, 1, none⟩ = false := by rw [(bcell hb3).2 _ _ (World.block_lt_of_cell? wr _ HE.out.1)]; exact HE.out.2.2.2.1
            obtain ⟨r1, r2⟩ := res2 e5 e6
            have HW3 := Lib.hid hb3
            clear hb3 e1
            go_wp2_with fail
            have hres : clashO d = some (a, b) := by
              have h1 := hcl.out
              obtain ⟨m, hm⟩ : ∃ m, d.pts.length - b = m + 1 := ⟨d.pts.length - b - 1, by omega⟩
              have h2 := hca.out
              rw [clA, if_pos (by simpa [List.getD, hbl, show a < d.pts.length by omega] using hlt)] at h2
              rw [← h1, hm, clB, show d.pts.length - (m + 1) = b by omega, ← h2]
            refine bodyPost_ret (v := .tuple #[.agg #[I a, I b], .bool true]) (by simp [results, Try.results74, go_sem, r1, r2]) rfl ⟨by rw [hres]; rfl, ?_⟩
            exact (((bto HW.out (bto HW2.out HW3.out)).setCell (p := ⟨w.heap.size + 1, 0, none⟩) (by simp) _).setCell (p := ⟨w.heap.size + 1, 1, none⟩) (by simp) _)
          · go_wp2_with fail
            go_roundw
            case rel => exact ⟨a, by omega, by go_num, Lib.hid (by rw [← hca.out, clA, if_neg (by simpa [List.getD, hbl, show a < d.pts.length by omega] using hlt)]), bto HW2.out hb3⟩
            case measure => first | (simp [intOf]; done) | (simp [intOf]; omega)
        · obtain rfl : k = 0 := by omega
          have HW2 := Lib.hid hbw2
          clear hbw2
          have HE1 := Lib.hid (Box2.mk e1 e2 e3 e4)
          have HE2 := Lib.hid (Box2.mk e5 e6 e7 e8)
          go_wp2_with fail
          go_roundw
          case rel => exact ⟨b + 1, by omega, by go_num, Lib.hid (by
            have h1 := hcl.out
            obtain ⟨m, hm⟩ : ∃ m, d.pts.length - b = m + 1 := ⟨d.pts.length - b - 1, by omega⟩
            have h2 := hca.out
            rw [hm, clB, show d.pts.length - (m + 1) = b by omega, ← h2, clA] at h1
            rw [← h1, show d.pts.length - (b + 1) = m by omega]), HE1.out, HE2.out, bto HW.out HW2.out⟩
          case measure => first | (simp [intOf]; done) | (simp [intOf]; omega)
    · obtain rfl : b = d.pts.length := by omega
      obtain ⟨e5, e6, e7, e8⟩ := hb2
      obtain ⟨r1, r2⟩ := res2 e5 e6
      have HW := Lib.hid hbw
      clear hbw hb1
      go_wp2_with fail
      have hres : clashO d = none := by
        have h1 := hcl.out
        rw [Nat.sub_self] at h1
        exact h1.symm
      refine bodyPost_ret (v := .tuple #[.agg #[I 0, I 0], .bool false]) (by simp [results, Try.results74, go_sem, r1, r2]) rfl ⟨by rw [hres]; rfl, ?_⟩
      exact ((HW.out.setCell (p := ⟨w.heap.size + 1, 0, none⟩) (by simp) _).setCell (p := ⟨w.heap.size + 1, 1, none⟩) (by simp) _)

/-- A slice of spans. -/
def spanCells (l : List (Int × Int)) : List Value := l.flatMap fun s => [I s.1, I s.2]
def Spans (w : World) (v : Value) (l : List (Int × Int)) : Prop := Reads w 2 v l.length (spanCells l)
theorem spanCells_at : ∀ (l : List (Int × Int)) (i : Nat) (h : i < l.length), (spanCells l)[i * 2]? = some (I l[i].1) ∧ (spanCells l)[i * 2 + 1]? = some (I l[i].2)
  | [], i, h => absurd h (by simp)
  | s :: l, 0, _ => ⟨rfl, rfl⟩
  | s :: l, i + 1, h => by
    have := spanCells_at l i (by simpa using h)
    have e : spanCells (s :: l) = I s.1 :: I s.2 :: spanCells l := rfl
    rw [e, show (i + 1) * 2 = i * 2 + 2 from by omega]
    simpa using this
theorem Spans.below {w w' : World} {v : Value} {l : List (Int × Int)} (h : Spans w v l) (hb : Below w.heap.size w w') : Spans w' v l := Reads.below h hb
theorem Spans.open_ {w : World} {v : Value} {l : List (Int × Int)} (h : Spans w v l) :
    ∃ A c, v = .slice A l.length c ∧ l.length ≤ c ∧ c ≤ 9223372036854775807 ∧ (0 < l.length → ∃ b o, A = some ⟨b, o, none⟩ ∧ b < w.heap.size ∧
      ∀ j (hj : j < l.length), w.cell? ⟨b, o + j * 2, none⟩ = some (I l[j].1) ∧ w.cell? ⟨b, o + j * 2 + 1, none⟩ = some (I l[j].2)) := by
  obtain ⟨h1, A, c, h2, h3, h4, h5⟩ := h
  refine ⟨A, c, h2, h3, h4, fun hn => ?_⟩
  obtain ⟨b, o, h6, h7⟩ := h5 hn
  have hc : ∀ j (hj : j < l.length), w.cell? ⟨b, o + j * 2, none⟩ = some (I l[j].1) ∧ w.cell? ⟨b, o + j * 2 + 1, none⟩ = some (I l[j].2) := fun j hj => by
    obtain ⟨e1, e2⟩ := spanCells_at l j hj
    exact ⟨h7 _ _ e1, by have := h7 _ _ e2; simpa [Nat.add_assoc] using this⟩
  exact ⟨b, o, h6, World.block_lt_of_cell? w _ (hc 0 hn).1, hc⟩

/-- What 'lost' says. -/
def lostF (l : List (Int × Int)) (f t : Nat) : Int × Int := if f = t then (0, 0) else (max 0 ((l.getD f (0, 0)).1 - (l.getD t (0, 0)).2), (l.getD f (0, 0)).2 - (l.getD t (0, 0)).1)

set_option maxRecDepth 20000 in
set_option maxHeartbeats 1000000 in
theorem lost_any (v : Value) (l : List (Int × Int)) (f t : Int) (w : World) (hv : Spans w v l) (hf0 : 0 ≤ f) (ht0 : 0 ≤ t) (hf : f < l.length) (ht : t < l.length) (hbd : ∀ s ∈ l, (0 ≤ s.1 ∧ s.1 ≤ 99) ∧ 0 ≤ s.2 ∧ s.2 ≤ 99) :
    Calls Try.prog 53 #[v, I f, I t] w fun e w' => e = .returned (.agg #[I (lostF l f.toNat t.toNat).1, I (lostF l f.toNat t.toNat).2]) ∧ Below w.heap.size w w' := by
  obtain ⟨f, rfl⟩ := Int.eq_ofNat_of_zero_le hf0
  obtain ⟨t, rfl⟩ := Int.eq_ofNat_of_zero_le ht0
  simp only [Int.toNat_natCast]
  obtain ⟨A, c, rfl, hnc, hcm, hcell⟩ := hv.open_
  obtain ⟨B, o, rfl, hBl, hcell⟩ := hcell (by omega)
  have hf' : f < l.length := by omega
  have ht' : t < l.length := by omega
  obtain ⟨x1, x2⟩ := hcell f hf'
  obtain ⟨y1, y2⟩ := hcell t ht'
  obtain ⟨⟨b1, b2⟩, b3, b4⟩ := hbd _ (List.getElem_mem hf')
  obtain ⟨⟨b5, b6⟩, b7, b8⟩ := hbd _ (List.getElem_mem ht')
  have hE : lostF l f t = if f = t then (0, 0) else (max 0 (l[f].1 - l[t].2), l[f].2 - l[t].1) := by simp [lostF, List.getD, hf', ht']
  rw [hE]
  have hres := Box2.new w (I 0) (I 0) 29
  clear hE hcell hbd hv
  by_cases hft : f = t
  · subst hft
    rw [if_pos rfl]
    obtain ⟨r1, r2⟩ := res2 hres.c0 hres.c1
    clear x1 x2 y1 y2
    go_enter Try.func53, Try.ntmps53
    go_wp2_with fail
    refine bodyPost_ret (v := .agg #[I 0, I 0]) (by simp [results, Try.results53, go_sem]) rfl ⟨rfl, ?_⟩
    repeat (first | exact Below.refl _ _ | refine Below.setCell ?_ (by simp) _ | exact (Below.refl _ _).alloc (Nat.le_refl _) _)
  · rw [if_neg hft]
    have hft' : ((f : Int) == (t : Int)) = false := by simp; omega
    clear hft
    go_enter Try.func53, Try.ntmps53
    have k0 := cell_regrown (box_old w (.cells #[I 0, I 0] 29) x1)
    have k1 := cell_regrown (box_old w (.cells #[I 0, I 0] 29) x2)
    have k2 := cell_regrown (box_old w (.cells #[I 0, I 0] 29) y1)
    have k3 := cell_regrown (box_old w (.cells #[I 0, I 0] 29) y2)
    go_wp2_with fail
    refine wp_region_seg [] [0, 1, 2, 3, 4, 5, 6, 7, 8, 9, 10, 11, 12, 13, 14, 15, 16, 17, 18, 19, 20, 21, 22, 23] [24] 24 (by kernel_rfl) (by kernel_rfl) ?_
    intro KQ hKQ w1 hb1
    have k0 := cell_regrown (keep_cell hb1 (box_old w (.cells #[I 0, I 0] 29) x1))
    have k1 := cell_regrown (keep_cell hb1 (box_old w (.cells #[I 0, I 0] 29) x2))
    have k2 := cell_regrown (keep_cell hb1 (box_old w (.cells #[I 0, I 0] 29) y1))
    have k3 := cell_regrown (keep_cell hb1 (box_old w (.cells #[I 0, I 0] 29) y2))
    have hres := hres.keep hb1
    by_cases hm : l[f].1 - l[t].2 ≤ 0
    · refine seg_last ?_
      simp only [opsAt, List.filterMap_cons, List.filterMap_nil, List.getElem?_toArray, List.getElem?_cons_succ, List.getElem?_cons_zero]
      repeat (first | go_big_quiet_step (fail) | quiet_step (fail))
      refine wpQuiet_nil ?_
      obtain ⟨r1, r2⟩ := res2 hres.c0 hres.c1
      obtain ⟨_, _, r3, r4⟩ := hres
      go_wp2_with fail
      refine bodyPost_ret (v := .agg #[I 0, I (l[f].2 - l[t].1)]) (by simp [results, Try.results53, go_sem, r1, r2]) rfl ⟨by rw [show max 0 (l[f].1 - l[t].2) = 0 by omega], ?_⟩
      exact ((bto ((Below.refl w.heap.size w).alloc (Nat.le_refl _) _) hb1).setCell (p := ⟨w.heap.size, 0, none⟩) (by simp) _).setCell (p := ⟨w.heap.size, 1, none⟩) (by simp) _
    · refine seg_last ?_
      simp only [opsAt, List.filterMap_cons, List.filterMap_nil, List.getElem?_toArray, List.getElem?_cons_succ, List.getElem?_cons_zero]
      repeat (first | go_big_quiet_step (fail) | quiet_step (fail))
      refine wpQuiet_nil ?_
      obtain ⟨r1, r2⟩ := res2 hres.c0 hres.c1
      obtain ⟨_, _, r3, r4⟩ := hres
      go_wp2_with fail
      refine bodyPost_ret (v := .agg #[I (l[f].1 - l[t].2), I (l[f].2 - l[t].1)]) (by simp [results, Try.results53, go_sem, r1, r2]) rfl ⟨by rw [show max 0 (l[f].1 - l[t].2) = l[f].1 - l[t].2 by omega], ?_⟩
      exact ((bto ((Below.refl w.heap.size w).alloc (Nat.le_refl _) _) hb1).setCell (p := ⟨w.heap.size, 0, none⟩) (by simp) _).setCell (p := ⟨w.heap.size, 1, none⟩) (by simp) _
end Go.Proofs.Ytldcehhhndlhdaa
