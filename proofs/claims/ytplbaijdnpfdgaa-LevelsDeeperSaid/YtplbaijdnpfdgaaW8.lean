/- The iterator over the levels: its contract. -/
import Derived.Test.YtplbaijdnpfdgaaW7
import Derived.Test.YtplbaijdnpfdgaaRange2
import Derived.RangeFuncBox
import Derived.OwnWalkIn
import Derived.TacticsInMore
import Derived.LoopNIn
import Derived.LoopIn
namespace Go.Proofs.Ytplbaijdnpfdgaa
open Go.RowKit Go.Sort
attribute [local go_sem] Oper.semAt_some

/-- Between what the level of a well is. -/
def lvl (ms : List Int) (w : Nat) : Sp := ⟨-at_ ms w 6, at_ ms 6 w⟩
def encL (ms : List Int) (x : Nat) : Array Value := #[I (x : Nat), (lvl ms x).val]
/-- Bounds that may be turned around. -/
def Okm (ms : List Int) : Prop := ms.length = 49 ∧ ∀ i, i < 7 → -9000000000 ≤ at_ ms i 6 ∧ at_ ms i 6 ≤ 9000000000

set_option maxRecDepth 100000 in
set_option maxHeartbeats 2000000 in
theorem levels_any (B : Nat) (W : Int) (w : World) :
    Calls Try.prog 105 #[.pointer (some ⟨B, 0, none⟩), I W] w fun e w' => e = .returned (.func (.func 107) #[] #[.pointer (some ⟨w.heap.size + 1, 0, none⟩), .pointer (some ⟨w.heap.size, 0, none⟩)]) ∧ w' = (w.alloc (.cells #[.pointer (some ⟨B, 0, none⟩)] 81)).alloc (.cells #[I W] 3) := by
  go_enter Try.func105, Try.ntmps105
  go_wp2
  go_ret
  exact ⟨rfl, rfl⟩

set_option maxRecDepth 100000 in
set_option maxHeartbeats 4000000 in
theorem levels1_in (l Bw Bb B N : Nat) (ms : List Int) (hN : N ≤ 6) (hok : Okm ms) (J Jx : List Nat → World → Prop) (W : World) (hJ : AbidesFrom W.heap.size J)
    (hY : ∀ pre x W1, J pre W1 → (x = pre.length ∧ x < N) → YieldAt Fence.wide 3 Try.prog l (encL ms x) W1 fun e W' =>
      (e = .returned (.bool true) ∧ J (pre ++ [x]) W' ∧ KpK [Bw, Bb, B] W1 W') ∨ (e = .returned (.bool false) ∧ Jx (pre ++ [x]) W'))
    (hw : W.cell? ⟨Bw, 0, none⟩ = some (I (N : Nat))) (hb : W.cell? ⟨Bb, 0, none⟩ = some (.pointer (some ⟨B, 0, none⟩))) (hm : MatAt W B ms) (h0 : J [] W) :
    CallsIn Fence.wide 4 Try.prog 107 #[.func (.yield l) #[] #[], .pointer (some ⟨Bw, 0, none⟩), .pointer (some ⟨Bb, 0, none⟩)] W fun e W' => (∃ v, e = .returned v) ∧
      ((∃ ys, ys = List.range N ∧ J ys W') ∨ (∃ pre, True ∧ Jx pre W')) := by
  refine callsIn_of_wp Try.func107 rfl trivial ?_ rfl
  simp only [Try.ntmps107, List.size_toArray, List.length_cons, List.length_nil, Nat.reduceAdd, Nat.reduceSub, Array.replicate_succ, Array.replicate_zero, List.push_toArray, List.append_toArray, List.nil_append, List.cons_append]
  have HLT := Lib.hid (show ∀ k ∈ [Bw, Bb, B], k < W.heap.size by
    intro k hk
    have a1 := World.block_lt_of_cell? W _ hw
    have a2 := World.block_lt_of_cell? W _ hb
    have a3 := hm.lt
    simp at hk a1 a2
    omega)
  have HM := Lib.hid hm
  have HB := Lib.hid hb
  have HJ := Lib.hid hJ
  have HOK := Lib.hid hok
  clear hm hb hJ hok
  gi_wp2
  gi_loopw [6] (fun i wr => ∃ k : Nat, k ≤ N ∧ i = I k ∧ J (List.range k) wr ∧ Hid (KpK [Bw, Bb, B] W wr)) (fun i _ => (N - (intOf i).toNat))
  case atStart => exact ⟨0, Nat.zero_le _, rfl, h0, Lib.hid (KpK.refl _ _)⟩
  case round =>
    obtain ⟨k, hk, rfl, hJs, HW⟩ := hrel
    by_cases hlt : k < N
    · have hlti : (k : Int) < (N : Int) := by omega
      have hbb : wr.cell? ⟨Bb, 0, none⟩ = some (.pointer (some ⟨B, 0, none⟩)) := (World.cell?_of_block (HW.out.same Bb (by simp))).trans HB.out
      have hmm : MatAt wr B ms := HM.out.same (HW.out.same B (by simp))
      have HMM := Lib.hid hmm
      have hk6 : k < 7 := by omega
      clear hmm
      gi_wp2_with fail
      refine ⟨trivial, ?_⟩
      refine (callsIn_wide.2 (span_any B 6 k ms wr HMM.out HOK.out.1 (by omega) (by omega) (by omega) (by omega) (by simpa using (HOK.out.2 k hk6).1) (by simpa using (HOK.out.2 k hk6).2))).mono ?_
      rintro e w2 ⟨rfl, hbw⟩
      have hJ2 := HJ.out _ _ _ none hJs (grown_of_below hbw none) (by simp)
      have HW2 := Lib.hid (HW.out.trans (KpK.below hbw (fun k hk => Nat.lt_of_lt_of_le (HLT.out k hk) HW.out.size)))
      obtain ⟨fn, tmps, assign, body, hy, hR⟩ := hY _ k w2 hJ2 ⟨by simp, hlt⟩
      dsimp only [encL, lvl] at hy
      rw [show (6 : Int).toNat = 6 from rfl, Int.toNat_natCast]
      clear hbw hbb
      gi_wp2
      refine hR.mono ?_
      rintro e W3 (⟨rfl, hJ3, hk3⟩ | ⟨rfl, hJx3⟩)
      · gi_wp2
        go_roundw
        case rel => exact ⟨k + 1, by omega, by go_num, by rw [List.range_succ]; exact hJ3, Lib.hid (HW2.out.trans hk3)⟩
        case measure => first | (simp [intOf]; done) | (simp [intOf]; omega)
      · gi_wp2
        refine bodyPost_ret (results_none rfl _ _ _) rfl ?_
        exact ⟨⟨_, rfl⟩, .inr ⟨_, trivial, hJx3⟩⟩
    · have hlti : ¬ (k : Int) < (N : Int) := by omega
      have hkN : k = N := by omega
      have HK := Lib.hid hkN
      clear hkN
      gi_wp2
      go_end0
      exact ⟨⟨_, rfl⟩, .inl (by rw [← HK.out]; exact hJs)⟩

/-- The contract: the wells in their order, each with its span; of what it reads nothing may turn. -/
theorem levels_seq (w : World) (Bw Bb B N : Nat) (ms : List Int) (hN : N ≤ 6) (hok : Okm ms)
    (hw : w.cell? ⟨Bw, 0, none⟩ = some (I (N : Nat))) (hb : w.cell? ⟨Bb, 0, none⟩ = some (.pointer (some ⟨B, 0, none⟩))) (hm : MatAt w B ms) :
    SeqR Fence.wide 4 Try.prog 107 #[.pointer (some ⟨Bw, 0, none⟩), .pointer (some ⟨Bb, 0, none⟩)] (encL ms) (KpK [Bw, Bb, B]) (fun ys => ys = List.range N) (fun _ => True) (fun _ => True) (fun pre x _ => x = pre.length ∧ x < N) w := fun l J Jx W hW hJ _ _ hY h0 =>
  levels1_in l Bw Bb B N ms hN hok J Jx W hJ hY (keep_cell hW hw) (keep_cell hW hb) (hm.below hW) h0
end Go.Proofs.Ytplbaijdnpfdgaa
