/- The iterator over the levels: its contract. -/
import Derived.Test.YtldcehhhndlhdaaDoorC10
import Derived.RangeFuncBox
import Derived.OwnWalkIn
import Derived.TacticsInMore
import Derived.LoopNIn
import Derived.LoopIn
import Derived.Shelf.Abstract
import Derived.Test.YtldcehhhndlhdaaDoorC5
import Derived.Test.YtldcehhhndlhdaaDoorC4
import Derived.OrdersIn
import Derived.RangeFuncCalls
import Derived.TacticsIn
import Derived.Test.YtldcehhhndlhdaaDoorC8
import Derived.Laws.StructEq
namespace Go.Proofs.YtldcehhhndlhdaaDoor
open Go.RowKit Go.Sort
attribute [local go_sem] Oper.semAt_some

/-- Between what the level of a well is. -/
def lvl (ms : List Int) (w : Nat) : Sp := ⟨-at_ ms w 6, at_ ms 6 w⟩
def encL (ms : List Int) (x : Nat) : Array Value := #[I (x : Nat), (lvl ms x).val]
/-- Bounds that may be turned around. -/
def Okm (ms : List Int) : Prop := ms.length = 49 ∧ ∀ i, i < 7 → -9000000000 ≤ at_ ms i 6 ∧ at_ ms i 6 ≤ 9000000000

set_option maxRecDepth 100000 in
set_option maxHeartbeats 2000000 in
theorem levels_any (B : Nat) (W : Int) (w : World) :
    Calls Tryd.prog 68 #[.pointer (some ⟨B, 0, none⟩), I W] w fun e w' => e = .returned (.func (.func 94) #[] #[.pointer (some ⟨w.heap.size + 1, 0, none⟩), .pointer (some ⟨w.heap.size, 0, none⟩)]) ∧ w' = (w.alloc (.cells #[.pointer (some ⟨B, 0, none⟩)] 109)).alloc (.cells #[I W] 3) := by
  go_enter Tryd.func68, Tryd.ntmps68
  go_wp2
  go_ret
  exact ⟨rfl, rfl⟩

set_option maxRecDepth 100000 in
set_option maxHeartbeats 4000000 in
theorem levels1_in (l Bw Bb B N : Nat) (ms : List Int) (hN : N ≤ 6) (hok : Okm ms) (J Jx : List Nat → World → Prop) (W : World) (hJ : AbidesFrom W.heap.size J)
    (hY : ∀ pre x W1, J pre W1 → (x = pre.length ∧ x < N) → YieldAt Fence.wide 3 Tryd.prog l (encL ms x) W1 fun e W' =>
      (e = .returned (.bool true) ∧ J (pre ++ [x]) W' ∧ KpK [Bw, Bb, B] W1 W') ∨ (e = .returned (.bool false) ∧ Jx (pre ++ [x]) W'))
    (hw : W.cell? ⟨Bw, 0, none⟩ = some (I (N : Nat))) (hb : W.cell? ⟨Bb, 0, none⟩ = some (.pointer (some ⟨B, 0, none⟩))) (hm : MatAt W B ms) (h0 : J [] W) :
    CallsIn Fence.wide 4 Tryd.prog 94 #[.func (.yield l) #[] #[], .pointer (some ⟨Bw, 0, none⟩), .pointer (some ⟨Bb, 0, none⟩)] W fun e W' => (∃ v, e = .returned v) ∧
      ((∃ ys, ys = List.range N ∧ J ys W') ∨ (∃ pre, True ∧ Jx pre W')) := by
  refine callsIn_of_wp Tryd.func94 rfl trivial ?_ rfl
  simp only [Tryd.ntmps94, List.size_toArray, List.length_cons, List.length_nil, Nat.reduceAdd, Nat.reduceSub, Array.replicate_succ, Array.replicate_zero, List.push_toArray, List.append_toArray, List.nil_append, List.cons_append]
  have HLT := Lib.hid (show ∀ k ∈ [Bw, Bb, B], k < W.heap.size by
    intro k hk
    have a1 := World.block_lt_of_cell? W _ hw
    have a2 := World.block_lt_of_cell? W _ hb
    have a3 := hm.lt
    simp at hk a1 a2
    omega)
  have HM := Lib.hid hm
  have HB := Lib.hid hb
  have HJ := Lib.hid hJ
  have HOK := Lib.hid hok
  clear hm hb hJ hok
  gi_wp2
  gi_loopw [6] (fun i wr => ∃ k : Nat, k ≤ N ∧ i = I k ∧ J (List.range k) wr ∧ Hid (KpK [Bw, Bb, B] W wr)) (fun i _ => (N - (intOf i).toNat))
  case atStart => exact ⟨0, Nat.zero_le _, rfl, h0, Lib.hid (KpK.refl _ _)⟩
  case round =>
    obtain ⟨k, hk, rfl, hJs, HW⟩ := hrel
    by_cases hlt : k < N
    · have hlti : (k : Int) < (N : Int) := by omega
      have hbb : wr.cell? ⟨Bb, 0, none⟩ = some (.pointer (some ⟨B, 0, none⟩)) := (World.cell?_of_block (HW.out.same Bb (by simp))).trans HB.out
      have hmm : MatAt wr B ms := HM.out.same (HW.out.same B (by simp))
      have HMM := Lib.hid hmm
      have hk6 : k < 7 := by omega
      clear hmm
      gi_wp2_with fail
      refine ⟨trivial, ?_⟩
      refine (callsIn_wide.2 (span_any B 6 k ms wr HMM.out HOK.out.1 (by omega) (by omega) (by omega) (by omega) (by simpa using (HOK.out.2 k hk6).1) (by simpa using (HOK.out.2 k hk6).2))).mono ?_
      rintro e w2 ⟨rfl, hbw⟩
      have hJ2 := HJ.out _ _ _ none hJs (grown_of_below hbw none) (by simp)
      have HW2 := Lib.hid (HW.out.trans (KpK.below hbw (fun k hk => Nat.lt_of_lt_of_le (HLT.out k hk) HW.out.size)))
      obtain ⟨fn, tmps, assign, body, hy, hR⟩ := hY _ k w2 hJ2 ⟨by simp, hlt⟩
      dsimp only [encL, lvl] at hy
      rw [show (6 : Int).toNat = 6 from rfl, Int.toNat_natCast]
      clear hbw hbb
      gi_wp2
      refine hR.mono ?_
      rintro e W3 (⟨rfl, hJ3, hk3⟩ | ⟨rfl, hJx3⟩)
      · gi_wp2
        go_roundw
        case rel => exact ⟨k + 1, by omega, by go_num, by rw [List.range_succ]; exact hJ3, Lib.hid (HW2.out.trans hk3)⟩
        case measure => first | (simp [intOf]; done) | (simp [intOf]; omega)
      · gi_wp2
        refine bodyPost_ret (results_none rfl _ _ _) rfl ?_
        exact ⟨⟨_, rfl⟩, .inr ⟨_, trivial, hJx3⟩⟩
    · have hlti : ¬ (k : Int) < (N : Int) := by omega
      have hkN : k = N := by omega
      have HK := Lib.hid hkN
      clear hkN
      gi_wp2
      go_end0
      exact ⟨⟨_, rfl⟩, .inl (by rw [← HK.out]; exact hJs)⟩

/-- The contract: the wells in their order, each with its span; of what it reads nothing may turn. -/
theorem levels_seq (w : World) (Bw Bb B N : Nat) (ms : List Int) (hN : N ≤ 6) (hok : Okm ms)
    (hw : w.cell? ⟨Bw, 0, none⟩ = some (I (N : Nat))) (hb : w.cell? ⟨Bb, 0, none⟩ = some (.pointer (some ⟨B, 0, none⟩))) (hm : MatAt w B ms) :
    SeqR Fence.wide 4 Tryd.prog 94 #[.pointer (some ⟨Bw, 0, none⟩), .pointer (some ⟨Bb, 0, none⟩)] (encL ms) (KpK [Bw, Bb, B]) (fun ys => ys = List.range N) (fun _ => True) (fun _ => True) (fun pre x _ => x = pre.length ∧ x < N) w := fun l J Jx W hW hJ _ _ hY h0 =>
  levels1_in l Bw Bb B N ms hN hok J Jx W hJ hY (keep_cell hW hw) (keep_cell hW hb) (hm.below hW) h0
end Go.Proofs.YtldcehhhndlhdaaDoor
/- Walks: width. -/
namespace Go.Proofs.YtldcehhhndlhdaaDoor
open Go.RowKit Go.Sort Go.Shelf
attribute [local go_sem] Oper.semAt_some

/-- How wide the levels are together. -/
def widL (ms : List Int) (xs : List Nat) : Int := (xs.map fun x => (lvl ms x).high - (lvl ms x).low).sum
theorem widL_snoc (ms : List Int) (xs : List Nat) (x : Nat) : widL ms (xs ++ [x]) = widL ms xs + ((lvl ms x).high - (lvl ms x).low) := by simp [widL]
/-- Levels of wells that are small numbers. -/
def Sml (ms : List Int) (N : Nat) : Prop := ∀ i, i < N → -99 ≤ (lvl ms i).low ∧ (lvl ms i).low ≤ 99 ∧ -99 ≤ (lvl ms i).high ∧ (lvl ms i).high ≤ 99
theorem widL_bd {ms : List Int} {N : Nat} (h : Sml ms N) (hN : N ≤ 6) : ∀ k, k ≤ N → -198 * k ≤ widL ms (List.range k) ∧ widL ms (List.range k) ≤ 198 * k
  | 0, _ => by simp [widL]
  | k + 1, hk => by
    have := widL_bd h hN k (by omega)
    have := h k (by omega)
    rw [List.range_succ, widL_snoc]
    omega

end Go.Proofs.YtldcehhhndlhdaaDoor
/- The rules for regions that draw their order, in a round of a range over a function. No function here; no conditions. -/
namespace Go.Proofs.YtldcehhhndlhdaaDoor
open Go.RowKit
section
variable {P : Program} {ops : Array Oper} {l n : Nat}
/-- No operation of the region is a 'defer'. -/
def noDefer (ops : Array Oper) : Bool := ops.all fun o => match o.op with | .defer _ => false | _ => true
theorem rowsIn_round {row : String} {args : Array Value} {w : World} {R : Value → World → Prop} (h : Rows P row args w R) : RowsIn (Fence.wide.inRound l) n P row args w R := fun c cs _ =>
  let ⟨v, w', r, s⟩ := h c cs
  ⟨v, w', r, stepsIn_wide.2 s⟩
theorem op_in {o : Oper} {a : Act} {w : World} {K : Act → World → Prop} {Q : Exit → Act → World → Prop} (hd : ∀ c, o.op ≠ .defer c) (h : o.wp P a w K Q) : o.wpIn (Fence.wide.inRound l) n P a w K Q := by
  refine ⟨fun _ _ => trivial, ?_⟩
  unfold Oper.wp at h
  rw [Fence.inRound_round, Oper.semAt_some l a.eval o hd]
  generalize (execOp a.eval o).run P w = r at h
  cases r with
  | ok x w' =>
    cases x <;> simp only [Oper.upon, Oper.uponIn] at h ⊢ <;> first | exact h | exact h.elim | exact ⟨fun h' => by simp [Fence.wide] at h', CallsIn.inRound l (callsIn_wide.2 h)⟩ | exact ⟨fun h' => by simp [Fence.wide] at h', rowsIn_round h⟩
  | halt x w' => cases x <;> simp only [Oper.upon, Oper.uponIn] at h ⊢ <;> exact h
theorem noDefer_at (h : noDefer ops = true) {i : Nat} {o : Oper} (ho : ops[i]? = some o) : ∀ c, o.op ≠ .defer c := by
  intro c hc
  unfold noDefer at h
  rw [Array.all_eq_true] at h
  obtain ⟨hi, rfl⟩ := Array.getElem?_eq_some_iff.1 ho
  have := h i hi
  rw [hc] at this
  cases this
theorem any_in {Q : Exit → Act → World → Prop} (hd : noDefer ops = true) (hQ : ¬ LetsOut Q) : ∀ (fuel : Nat) (listed : Array Bool) (a : Act) (w : World), wpAny P .any ops Q fuel listed a w → wpAnyIn (Fence.wide.inRound l) n P .any ops Q fuel listed a w
  | 0, _, _, _, h => h
  | fuel + 1, listed, a, w, h => by
    refine ⟨h.1, fun i hi => ?_⟩
    have hi' := h.2 i hi
    unfold wpOp at hi'
    unfold wpOpIn
    cases ho : ops[i]? with
    | none => rw [ho] at hi'; exact any_in hd hQ fuel _ a w hi'
    | some o =>
      rw [ho] at hi'
      simp only at hi' ⊢
      split
      · rename_i hw
        rw [if_pos hw] at hi'
        rcases hi' with hi' | hi'
        · exact op_in (noDefer_at hd ho) (Oper.wp_mono (fun a w => any_in hd hQ fuel _ a w) hi')
        · exact absurd hi'.2 hQ
      · rename_i hw
        rw [if_neg hw] at hi'
        exact ⟨fun _ _ => trivial, any_in hd hQ fuel _ _ _ hi'⟩
theorem then_noOut (Q : Act → World → Prop) : ¬ LetsOut (Exit.then Q (fun _ _ _ => False)) := fun ⟨_, _, h⟩ => h

theorem wpIn_region_seg {id : Nat} {a : Act} {w : World} {R : Exit → Act → World → Prop} (segs : List (List Nat × Nat)) (last tail : List Nat) (k : Nat) (hm : P.follows .mixedOrders = true)
    (hp : (noDefer ops && (Region.noSelect ops && tailOk ops k && planOk ops k segs last tail (Array.replicate ops.size false) && tail.all (fun i => decide (k ≤ i) && decide (i < ops.size)) && decide ((segs.map fun s => s.1.length + 1).sum + last.length + tail.length = ops.size))) = true)
    (h : ∀ Q : Act → World → Prop, (∀ a w, R .normal a w → Q a w) → ∀ w', Below w.heap.size w w' → segRun P ops Q segs last tail a w') : (Code.region id ops true).wpIn (Fence.wide.inRound l) n P R a w := by
  simp only [Bool.and_eq_true, decide_eq_true_eq] at hp
  obtain ⟨hd, ⟨⟨⟨hs, ht⟩, hp⟩, hk⟩, he⟩ := hp
  have hk' : ∀ i ∈ tail, k ≤ i ∧ i < ops.size := fun i hi => by simpa using List.all_eq_true.1 hk i hi
  refine Code.wpIn_mono (Q := Exit.then (fun a w => R .normal a w) (fun _ _ _ => False)) (fun e a w hq => by cases e <;> first | exact hq | exact hq.elim) ?_
  refine wpIn_region_any hm (any_in hd (then_noOut _) _ _ _ _ (wpAny_of_G (S := Cls w.drew) (k := k) _ _ _ _ ?_))
  have key := seg_any hs ht segs last tail _ a w.drew Closed.start hp hk' (h _ (fun _ _ h => h) _ (Below.refl _ _).drew)
  rw [he] at key
  exact key
theorem wpIn_region_treeC {id : Nat} {a : Act} {w : World} {R : Exit → Act → World → Prop} (p : Plan) (k : Nat) (hm : P.follows .mixedOrders = true)
    (hp : (noDefer ops && (Region.noSelect ops && tailOk ops k && treeOk ops k p ops.size (Array.replicate ops.size false))) = true)
    (h : ∀ Q : Act → World → Prop, (∀ a w, R .normal a w → Q a w) → ∀ w', Below w.heap.size w w' → ∃ C : World → Prop, C w' ∧ treeRunC P ops Q C p a w') : (Code.region id ops true).wpIn (Fence.wide.inRound l) n P R a w := by
  simp only [Bool.and_eq_true] at hp
  obtain ⟨hd, ⟨hs, ht⟩, hp⟩ := hp
  refine Code.wpIn_mono (Q := Exit.then (fun a w => R .normal a w) (fun _ _ _ => False)) (fun e a w hq => by cases e <;> first | exact hq | exact hq.elim) ?_
  obtain ⟨C, hC, hrun⟩ := h _ (fun _ _ h => h) w.drew (Below.refl _ _).drew
  refine wpIn_region_any hm (any_in hd (then_noOut _) _ _ _ _ (wpAny_of_G (S := C) (k := k) _ _ _ _ ?_))
  exact tree_anyC hs ht p _ _ a w.drew Closed.start hC hp hrun
theorem wpIn_region_treeB {id : Nat} {a : Act} {w : World} {R : Exit → Act → World → Prop} (p : Plan) (k : Nat) (hm : P.follows .mixedOrders = true)
    (hp : (noDefer ops && (Region.noSelect ops && tailOk ops k && treeOk ops k p ops.size (Array.replicate ops.size false))) = true)
    (h : ∀ Q : Act → World → Prop, (∀ a w, R .normal a w → Q a w) → ∀ w', Below w.heap.size w w' → treeRunB P ops Q w' p a w') : (Code.region id ops true).wpIn (Fence.wide.inRound l) n P R a w := by
  simp only [Bool.and_eq_true] at hp
  obtain ⟨hd, ⟨hs, ht⟩, hp⟩ := hp
  refine Code.wpIn_mono (Q := Exit.then (fun a w => R .normal a w) (fun _ _ _ => False)) (fun e a w hq => by cases e <;> first | exact hq | exact hq.elim) ?_
  refine wpIn_region_any hm (any_in hd (then_noOut _) _ _ _ _ (wpAny_of_G (S := Cls w.drew) (k := k) _ _ _ _ ?_))
  exact tree_anyB hs ht p _ _ a w.drew Closed.start (Cls.refl _) hp (h _ (fun _ _ h => h) _ (Below.refl _ _).drew)
end
end Go.Proofs.YtldcehhhndlhdaaDoor
/- Spans, soundings and slopes held against each other. No function here; no conditions. -/
namespace Go.Proofs.YtldcehhhndlhdaaDoor
open Go.RowKit

theorem guardT47 : Tryd.prog.eqGuardType Tryd.prog.depth 47 = false := by kernel_rfl
theorem stoodT47 : Tryd.prog.stoodInHeld 47 = false := by kernel_rfl
theorem fieldsT47 : Tryd.prog.underlying 47 = some (.struct (Tryd.prog.fieldsOf 47)) := by kernel_rfl
theorem guardT31 : Tryd.prog.eqGuardType Tryd.prog.depth 31 = false := by kernel_rfl
theorem stoodT31 : Tryd.prog.stoodInHeld 31 = false := by kernel_rfl
theorem fieldsT31 : Tryd.prog.underlying 31 = some (.struct (Tryd.prog.fieldsOf 31)) := by kernel_rfl
theorem guardT77 : Tryd.prog.eqGuardType Tryd.prog.depth 77 = false := by kernel_rfl
theorem stoodT77 : Tryd.prog.stoodInHeld 77 = false := by kernel_rfl
theorem fieldsT77 : Tryd.prog.underlying 77 = some (.struct (Tryd.prog.fieldsOf 77)) := by kernel_rfl

theorem span_equal (d : Nat) (a b : Sp) (w : World) : (Op.equalIn (d + 3) 47 a.val b.val).run Tryd.prog w = .ok (a == b) w := by
  obtain ⟨a1, a2⟩ := a
  obtain ⟨b1, b2⟩ := b
  rw [run_equalIn_agg w _ _ _ _ fieldsT47 stoodT47]
  have hf : (Tryd.prog.fieldsOf 47).toList = [{ name := "Low", type := 3, offset := 0, embedded := false, tag := "", pkgPath := "", byteOffset := 0 }, { name := "High", type := 3, offset := 1, embedded := false, tag := "", pkgPath := "", byteOffset := 8 }] := by kernel_rfl
  rw [hf]
  have e : ((⟨a1, a2⟩ : Sp) == ⟨b1, b2⟩) = (decide (a1 = b1) && decide (a2 = b2)) := by
    rw [Bool.eq_iff_iff, beq_iff_eq, Sp.mk.injEq]; simp
  rw [e]
  simp [Op.eqFields, go_sem]
  by_cases h1 : a1 = b1 <;> by_cases h2 : a2 = b2 <;> simp [h1, h2]
theorem snd_equal (d : Nat) (a b : Snd) (w : World) : (Op.equalIn (d + 4) 31 a.val b.val).run Tryd.prog w = .ok (a == b) w := by
  obtain ⟨a1, a2, a3⟩ := a
  obtain ⟨b1, b2, b3⟩ := b
  rw [run_equalIn_agg w _ _ _ _ fieldsT31 stoodT31]
  have hf : (Tryd.prog.fieldsOf 31).toList = [{ name := "Well", type := 3, offset := 0, embedded := false, tag := "", pkgPath := "", byteOffset := 0 }, { name := "Low", type := 3, offset := 1, embedded := false, tag := "", pkgPath := "", byteOffset := 8 }, { name := "High", type := 3, offset := 2, embedded := false, tag := "", pkgPath := "", byteOffset := 16 }] := by kernel_rfl
  rw [hf]
  have e : ((⟨a1, a2, a3⟩ : Snd) == ⟨b1, b2, b3⟩) = (decide (a1 = b1) && (decide (a2 = b2) && decide (a3 = b3))) := by
    rw [Bool.eq_iff_iff, beq_iff_eq, Snd.mk.injEq]; simp
  rw [e]
  simp [Op.eqFields, go_sem]
  by_cases h1 : a1 = b1 <;> by_cases h2 : a2 = b2 <;> by_cases h3 : a3 = b3 <;> simp [h1, h2, h3]
theorem slp_equal (d : Nat) (a b : Slp) (w : World) : (Op.equalIn (d + 5) 77 a.val b.val).run Tryd.prog w = .ok (a == b) w := by
  obtain ⟨a1, a2, a3, a4⟩ := a
  obtain ⟨b1, b2, b3, b4⟩ := b
  rw [run_equalIn_agg w _ _ _ _ fieldsT77 stoodT77]
  have hf : (Tryd.prog.fieldsOf 77).toList = [{ name := "A", type := 3, offset := 0, embedded := false, tag := "", pkgPath := "", byteOffset := 0 }, { name := "B", type := 3, offset := 1, embedded := false, tag := "", pkgPath := "", byteOffset := 8 }, { name := "Low", type := 3, offset := 2, embedded := false, tag := "", pkgPath := "", byteOffset := 16 }, { name := "High", type := 3, offset := 3, embedded := false, tag := "", pkgPath := "", byteOffset := 24 }] := by kernel_rfl
  rw [hf]
  have e : ((⟨a1, a2, a3, a4⟩ : Slp) == ⟨b1, b2, b3, b4⟩) = (decide (a1 = b1) && (decide (a2 = b2) && (decide (a3 = b3) && decide (a4 = b4)))) := by
    rw [Bool.eq_iff_iff, beq_iff_eq, Slp.mk.injEq]; simp
  rw [e]
  simp [Op.eqFields, go_sem]
  by_cases h1 : a1 = b1 <;> by_cases h2 : a2 = b2 <;> by_cases h3 : a3 = b3 <;> by_cases h4 : a4 = b4 <;> simp [h1, h2, h3, h4]
theorem span_neq (a b : Sp) (w : World) : (binOp .neq 47 a.val b.val).run Tryd.prog w = .ok (.bool (!(a == b))) w := by rw [run_neq_struct, span_equal 9997]; rfl
theorem span_eql (a b : Sp) (w : World) : (binOp .eql 47 a.val b.val).run Tryd.prog w = .ok (.bool (a == b)) w := by rw [run_eql_struct, span_equal 9997]; rfl
theorem snd_neq (a b : Snd) (w : World) : (binOp .neq 31 a.val b.val).run Tryd.prog w = .ok (.bool (!(a == b))) w := by rw [run_neq_struct, snd_equal 9996]; rfl
theorem slp_neq (a b : Slp) (w : World) : (binOp .neq 77 a.val b.val).run Tryd.prog w = .ok (.bool (!(a == b))) w := by rw [run_neq_struct, slp_equal 9995]; rfl
end Go.Proofs.YtldcehhhndlhdaaDoor
/- Walks: same. -/
namespace Go.Proofs.YtldcehhhndlhdaaDoor
open Go.RowKit Go.Sort Go.Shelf
attribute [local go_sem] Oper.semAt_some

/-- Whether bounds leave the same levels. -/
def sameL (ms mo : List Int) (xs : List Nat) : Bool := xs.all fun x => lvl ms x == lvl mo x
theorem sameL_snoc (ms mo : List Int) (xs : List Nat) (x : Nat) : sameL ms mo (xs ++ [x]) = (sameL ms mo xs && (lvl ms x == lvl mo x)) := by simp [sameL]

end Go.Proofs.YtldcehhhndlhdaaDoor
