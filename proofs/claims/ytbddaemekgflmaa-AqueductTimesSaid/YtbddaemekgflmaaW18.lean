/- Walks of Freed, point, Example, SameInts. -/
import Derived.Test.YtbddaemekgflmaaW16
namespace Go.Proofs.Ytbddaemekgflmaa
open Go.RowKit Go.Sort

set_option maxHeartbeats 400000 in
theorem point_any (a b c : Int) (w : World) : Calls Try.prog 81 #[I a, I b, I c] w fun e w' => e = .returned (.agg #[I a, I b, I c]) ∧ Below w.heap.size w w' := by
  go_enter Try.func81, Try.ntmps81
  go_wp2_with fail
  refine bodyPost_ret (v := .agg #[I a, I b, I c]) (by simp [results, Try.results81, go_sem]) rfl ⟨rfl, ?_⟩
  repeat (first | exact Below.refl _ _ | refine Below.setCell ?_ (by simp) _ | exact (Below.refl _ _).alloc (Nat.le_refl _) _)

def exD : DLine := { pts := [⟨20, 22, 0⟩, ⟨15, 25, 3⟩, ⟨18, 19, 1⟩, ⟨10, 19, 4⟩, ⟨9, 12, 0⟩], odds := [1, 1, 2, 4] }

set_option maxRecDepth 20000 in
set_option maxHeartbeats 1000000 in
theorem example_any (w : World) : Calls Try.prog 57 #[] w fun e w' => ∃ v, e = .returned v ∧ LineAt w' v exD ∧ Below w.heap.size w w' := by
  have hb0 : ∀ x, Below w.heap.size w (w.alloc x) := fun x => (Below.refl _ _).alloc (Nat.le_refl _) _
  have B0 := Box2.new w (.slice none 0 0) (.slice none 0 0) 25
  have HB := Lib.hid (hb0 (.cells #[.slice none 0 0, .slice none 0 0] 25))
  go_enter Try.func57, Try.ntmps57
  go_wp2_with (go_at_call 81; refine (point_any _ _ _ _).mono ?_; rintro e w1 ⟨rfl, hb1⟩; have B0 := B0.keep hb1; obtain ⟨x0, x1, x2, x3⟩ := id B0; have hlt := B0.lt; have HB := Lib.hid (bto HB.out hb1); clear hb1)
  obtain ⟨r1, r2⟩ := res2 x0 x1
  refine bodyPost_ret (v := .agg #[.slice (some ⟨w1.heap.size, 0, none⟩) 5 5, .slice (some ⟨w1.heap.size + 1, 0, none⟩) 4 4]) (by simp [results, Try.results57, go_sem, r1, r2, hlt]) rfl ⟨_, rfl, ?_, ?_⟩
  · obtain ⟨W0, hW0⟩ : ∃ W0 : World, (w1.setCell ⟨w.heap.size, 0, none⟩ (.slice (some ⟨w1.heap.size, 0, none⟩) 5 5)).setCell ⟨w.heap.size, 1, none⟩ (.slice (some ⟨w1.heap.size + 1, 0, none⟩) 4 4) = W0 := ⟨_, rfl⟩
    have hs : W0.heap.size = w1.heap.size := by rw [← hW0]; simp
    rw [hW0]
    refine ⟨_, _, rfl, Reads.below (w := W0.alloc (.cells #[I 20, I 22, I 0, I 15, I 25, I 3, I 18, I 19, I 1, I 10, I 19, I 4, I 9, I 12, I 0] 36)) ⟨rfl, _, _, rfl, by decide, by decide, fun _ => ⟨_, 0, rfl, fun j u hu => ?_⟩⟩ ((Below.refl _ _).alloc (Nat.le_refl _) _), ⟨rfl, _, _, rfl, by decide, by decide, fun _ => ⟨_, 0, rfl, fun j u hu => ?_⟩⟩⟩
    · rw [Nat.zero_add, ← hs]
      exact box_cell W0 _ _ j (by rw [List.getElem?_toArray]; exact hu)
    · rw [Nat.zero_add, ← hs, ← World.size_alloc W0 (.cells #[I 20, I 22, I 0, I 15, I 25, I 3, I 18, I 19, I 1, I 10, I 19, I 4, I 9, I 12, I 0] 36)]
      exact box_cell _ _ _ j (by rw [List.getElem?_toArray]; exact hu)
  · exact (((HB.out.setCell (p := ⟨w.heap.size, 0, none⟩) (by simp) _).setCell (p := ⟨w.heap.size, 1, none⟩) (by simp) _).alloc (by simp; omega) _).alloc (by simp; omega) _

set_option maxHeartbeats 1000000 in
theorem same_any (va vb : Value) (xs ys : List Int) (w : World) (ha : Ints w va xs) (hb : Ints w vb ys) (hlen : xs.length ≤ 1000) (hlen' : ys.length ≤ 1000) :
    Calls Try.prog 45 #[va, vb] w fun e w' => e = .returned (.bool (decide (xs = ys))) ∧ Below w.heap.size w w' := by
  obtain ⟨A, c, rfl, hac, hcm, ha⟩ := ha.open_
  obtain ⟨A', c', rfl, hac', hcm', ha'⟩ := hb.open_
  have HA := Lib.hid ha
  have HA' := Lib.hid ha'
  clear ha ha' hb
  by_cases hl : xs.length = ys.length
  · have hl1 : ((xs.length : Int) != (ys.length : Int)) = false := by simp; omega
    have HL := Lib.hid hl
    clear hl
    go_enter Try.func45, Try.ntmps45
    go_wp2_with fail
    go_loopw [5] (fun i wr => ∃ k : Nat, k ≤ xs.length ∧ i = I k ∧ Hid (xs.take k = ys.take k) ∧ Hid (Below w.heap.size w wr)) (fun i _ => xs.length - (intOf i).toNat)
    case atStart => exact ⟨0, by omega, rfl, Lib.hid (by simp), Lib.hid (Below.refl _ _)⟩
    case round =>
      obtain ⟨k, hk, rfl, hj, hbw⟩ := hrel
      by_cases hlt : k < xs.length
      · have hlt' : k < ys.length := by have := HL.out; omega
        obtain ⟨b, o, rfl, hbl, hcell⟩ := HA.out (by omega)
        obtain ⟨b', o', rfl, hbl', hcell'⟩ := HA'.out (by omega)
        have y0 := cell_regrown (keep_cell hbw.out (hcell k hlt))
        have y1 := cell_regrown (keep_cell hbw.out (hcell' k hlt'))
        have q1 : (k : Int) < (xs.length : Int) := by omega
        have q2 : (k : Int) < (ys.length : Int) := by omega
        clear hcell hcell'
        by_cases he : xs[k] = ys[k]
        · have hq : (xs[k] != ys[k]) = false := by simp [he]
          have HE := Lib.hid (show xs.take (k + 1) = ys.take (k + 1) by rw [List.take_succ_eq_append_getElem hlt, List.take_succ_eq_append_getElem hlt', hj.out, he])
          clear he
          go_wp2_with fail
          refine wp_region_ext (by kernel_rfl) (by kernel_rfl) ?_
          repeat (first | go_big_quiet_step (fail) | quiet_step (fail))
          refine wpQuiet_nil ?_
          clear y0 y1
          intro w1 hb1
          go_wp2_with fail
          go_roundw
          case rel => exact ⟨k + 1, by omega, by go_num, HE, Lib.hid (bto hbw.out hb1)⟩
          case measure => first | (simp [intOf]; done) | (simp [intOf]; omega)
        · have hq : (xs[k] != ys[k]) = true := by simp [he]
          have HE := Lib.hid (show ¬ xs = ys from fun h => he (by subst h; rfl))
          clear he
          go_wp2_with fail
          refine wp_region_ext (by kernel_rfl) (by kernel_rfl) ?_
          repeat (first | go_big_quiet_step (fail) | quiet_step (fail))
          refine wpQuiet_nil ?_
          clear y0 y1
          intro w1 hb1
          go_wp2_with fail
          go_ret
          exact ⟨by rw [decide_eq_false HE.out]; rfl, bto hbw.out hb1⟩
      · obtain rfl : k = xs.length := by omega
        have HE := Lib.hid (show xs = ys by
          have h1 := hj.out
          have h2 := HL.out
          rw [List.take_length, h2, List.take_length] at h1
          exact h1)
        go_wp2_with fail
        go_ret
        exact ⟨by rw [decide_eq_true HE.out]; rfl, hbw.out⟩
  · have hl1 : ((xs.length : Int) != (ys.length : Int)) = true := by simp; omega
    have HE := Lib.hid (show ¬ xs = ys from fun h => hl (by rw [h]))
    clear hl
    go_enter Try.func45, Try.ntmps45
    go_wp2_with fail
    go_ret
    exact ⟨by rw [decide_eq_false HE.out]; rfl, Below.refl _ _⟩
end Go.Proofs.Ytbddaemekgflmaa
