/- Walks: least, three ways. -/
import Derived.Test.YtokendenofbnhaaW6
import Derived.Test.YtokendenofbnhaaW7
import Derived.Test.YtokendenofbnhaaW8
import Derived.Test.YtokendenofbnhaaW9
namespace Go.Proofs.Ytokendenofbnhaa
open Go.RowKit Go.Sort

set_option maxRecDepth 20000 in
set_option maxHeartbeats 2000000 in
theorem leastSteps_any (w0 : World) (ss : List Str) (room : List Int) (rv : Value) (A : Option Addr) (cs c m : Nat) (hss : Strs w0 (.slice A ss.length cs) ss) (hsl : ss.length ≤ 6) (hok : ∀ s ∈ ss, StrOk s) (hr : Ints w0 rv room) (hl : room.length ≤ 8) (hrm : ∀ x ∈ room, 0 ≤ x ∧ x ≤ 7)
    (w : World) (L : List Item) (hS : St w0 w w.heap.size (.any m (MemoP fun k l => bestP stepsI (ss.drop k) l) :: .box c [rv, .slice A ss.length cs, .func (.func 64) #[] #[], .map (some m)] :: L)) :
    Calls Try.prog 77 #[.pointer (some ⟨c, 0, none⟩)] w fun e w' => e = .returned (.tuple #[I (bestP stepsI ss (pad room)).1, .bool (decide (0 ≤ (bestP stepsI ss (pad room)).2))]) ∧ St w0 w' w'.heap.size (.any m (MemoP fun k l => bestP stepsI (ss.drop k) l) :: .box c [rv, .slice A ss.length cs, .func (.func 64) #[] #[], .map (some m)] :: L) := by
  have h0 := hS.get 1 0 rfl rfl
  have HS := Lib.hid hS
  obtain ⟨⟨x, y⟩, hxy⟩ : ∃ p, bestP stepsI ss (pad room) = p := ⟨_, rfl⟩
  have HX := Lib.hid hxy
  clear hxy hS
  go_enter Try.func77, Try.ntmps77
  go_wp2_with fail
  refine (begin_any c rv room _ h0 (hr.below HS.out.bel) hl).mono ?_
  rintro e w1 ⟨rfl, hb⟩
  have S := Lib.hid (HS.out.call hb)
  clear hb h0
  go_wp2_with fail
  refine (bestSteps_any w0 ss rv A cs c m hss hsl hok ss.length 0 (pad room) _ L (by omega) (pad_ok hl hrm) S.out).mono ?_
  rintro e w2 ⟨rfl, hS2⟩
  rw [show bestP stepsI (ss.drop 0) (pad room) = (x, y) from HX.out, show ansV (x, y) = .agg #[I x, I y] from rfl]
  have S := Lib.hid (hS2.alloc [I x, I y] 102)
  clear hS2
  go_wp2_with fail
  refine wp_region_seg [] [0, 1, 2, 3, 4, 5, 6] [] 7 (by kernel_rfl) (by kernel_rfl) ?_
  intro KQ hKQ w3 hb
  have S := Lib.hid (S.out.call hb)
  clear hb
  have q0_0 := cell_regrown (S.out.get 0 0 rfl rfl)
  have q0_1 := cell_regrown (S.out.get 0 1 rfl rfl)
  refine seg_last ?_
  simp only [opsAt, List.filterMap_cons, List.filterMap_nil, List.getElem?_toArray, List.getElem?_cons_succ, List.getElem?_cons_zero]
  repeat (first | go_big_quiet_step (fail) | quiet_step (fail))
  refine wpQuiet_nil ?_
  clear q0_0 q0_1
  go_wp2_with fail
  go_ret2
  exact ⟨by rw [HX.out]; rfl, S.out.tail⟩

set_option maxRecDepth 20000 in
set_option maxHeartbeats 2000000 in
theorem leastOnce_any (w0 : World) (ss : List Str) (room : List Int) (rv : Value) (A : Option Addr) (cs c m : Nat) (hss : Strs w0 (.slice A ss.length cs) ss) (hsl : ss.length ≤ 6) (hok : ∀ s ∈ ss, StrOk s) (hr : Ints w0 rv room) (hl : room.length ≤ 8) (hrm : ∀ x ∈ room, 0 ≤ x ∧ x ≤ 7)
    (w : World) (L : List Item) (hS : St w0 w w.heap.size (.any m (MemoP fun k l => bestP onceI (ss.drop k) l) :: .box c [rv, .slice A ss.length cs, .func (.func 80) #[] #[], .map (some m)] :: L)) :
    Calls Try.prog 77 #[.pointer (some ⟨c, 0, none⟩)] w fun e w' => e = .returned (.tuple #[I (bestP onceI ss (pad room)).1, .bool (decide (0 ≤ (bestP onceI ss (pad room)).2))]) ∧ St w0 w' w'.heap.size (.any m (MemoP fun k l => bestP onceI (ss.drop k) l) :: .box c [rv, .slice A ss.length cs, .func (.func 80) #[] #[], .map (some m)] :: L) := by
  have h0 := hS.get 1 0 rfl rfl
  have HS := Lib.hid hS
  obtain ⟨⟨x, y⟩, hxy⟩ : ∃ p, bestP onceI ss (pad room) = p := ⟨_, rfl⟩
  have HX := Lib.hid hxy
  clear hxy hS
  go_enter Try.func77, Try.ntmps77
  go_wp2_with fail
  refine (begin_any c rv room _ h0 (hr.below HS.out.bel) hl).mono ?_
  rintro e w1 ⟨rfl, hb⟩
  have S := Lib.hid (HS.out.call hb)
  clear hb h0
  go_wp2_with fail
  refine (bestOnce_any w0 ss rv A cs c m hss hsl hok ss.length 0 (pad room) _ L (by omega) (pad_ok hl hrm) S.out).mono ?_
  rintro e w2 ⟨rfl, hS2⟩
  rw [show bestP onceI (ss.drop 0) (pad room) = (x, y) from HX.out, show ansV (x, y) = .agg #[I x, I y] from rfl]
  have S := Lib.hid (hS2.alloc [I x, I y] 102)
  clear hS2
  go_wp2_with fail
  refine wp_region_seg [] [0, 1, 2, 3, 4, 5, 6] [] 7 (by kernel_rfl) (by kernel_rfl) ?_
  intro KQ hKQ w3 hb
  have S := Lib.hid (S.out.call hb)
  clear hb
  have q0_0 := cell_regrown (S.out.get 0 0 rfl rfl)
  have q0_1 := cell_regrown (S.out.get 0 1 rfl rfl)
  refine seg_last ?_
  simp only [opsAt, List.filterMap_cons, List.filterMap_nil, List.getElem?_toArray, List.getElem?_cons_succ, List.getElem?_cons_zero]
  repeat (first | go_big_quiet_step (fail) | quiet_step (fail))
  refine wpQuiet_nil ?_
  clear q0_0 q0_1
  go_wp2_with fail
  go_ret2
  exact ⟨by rw [HX.out]; rfl, S.out.tail⟩

set_option maxRecDepth 20000 in
set_option maxHeartbeats 2000000 in
theorem leastUp_any (w0 : World) (ss : List Str) (room : List Int) (rv : Value) (A : Option Addr) (cs c m : Nat) (far : Int) (bf : Nat) (hss : Strs w0 (.slice A ss.length cs) ss) (hsl : ss.length ≤ 6) (hok : ∀ s ∈ ss, StrOk s) (hf : w0.cell? ⟨bf, 0, none⟩ = some (I far)) (hr : Ints w0 rv room) (hl : room.length ≤ 8) (hrm : ∀ x ∈ room, 0 ≤ x ∧ x ≤ 7)
    (w : World) (L : List Item) (hS : St w0 w w.heap.size (.any m (MemoP fun k l => bestP (upToI far) (ss.drop k) l) :: .box c [rv, .slice A ss.length cs, .func (.func 95) #[] #[.pointer (some ⟨bf, 0, none⟩)], .map (some m)] :: L)) :
    Calls Try.prog 77 #[.pointer (some ⟨c, 0, none⟩)] w fun e w' => e = .returned (.tuple #[I (bestP (upToI far) ss (pad room)).1, .bool (decide (0 ≤ (bestP (upToI far) ss (pad room)).2))]) ∧ St w0 w' w'.heap.size (.any m (MemoP fun k l => bestP (upToI far) (ss.drop k) l) :: .box c [rv, .slice A ss.length cs, .func (.func 95) #[] #[.pointer (some ⟨bf, 0, none⟩)], .map (some m)] :: L) := by
  have h0 := hS.get 1 0 rfl rfl
  have HS := Lib.hid hS
  obtain ⟨⟨x, y⟩, hxy⟩ : ∃ p, bestP (upToI far) ss (pad room) = p := ⟨_, rfl⟩
  have HX := Lib.hid hxy
  clear hxy hS
  go_enter Try.func77, Try.ntmps77
  go_wp2_with fail
  refine (begin_any c rv room _ h0 (hr.below HS.out.bel) hl).mono ?_
  rintro e w1 ⟨rfl, hb⟩
  have S := Lib.hid (HS.out.call hb)
  clear hb h0
  go_wp2_with fail
  refine (bestUp_any w0 ss rv A cs c m far bf hss hsl hok hf ss.length 0 (pad room) _ L (by omega) (pad_ok hl hrm) S.out).mono ?_
  rintro e w2 ⟨rfl, hS2⟩
  rw [show bestP (upToI far) (ss.drop 0) (pad room) = (x, y) from HX.out, show ansV (x, y) = .agg #[I x, I y] from rfl]
  have S := Lib.hid (hS2.alloc [I x, I y] 102)
  clear hS2
  go_wp2_with fail
  refine wp_region_seg [] [0, 1, 2, 3, 4, 5, 6] [] 7 (by kernel_rfl) (by kernel_rfl) ?_
  intro KQ hKQ w3 hb
  have S := Lib.hid (S.out.call hb)
  clear hb
  have q0_0 := cell_regrown (S.out.get 0 0 rfl rfl)
  have q0_1 := cell_regrown (S.out.get 0 1 rfl rfl)
  refine seg_last ?_
  simp only [opsAt, List.filterMap_cons, List.filterMap_nil, List.getElem?_toArray, List.getElem?_cons_succ, List.getElem?_cons_zero]
  repeat (first | go_big_quiet_step (fail) | quiet_step (fail))
  refine wpQuiet_nil ?_
  clear q0_0 q0_1
  go_wp2_with fail
  go_ret2
  exact ⟨by rw [HX.out]; rfl, S.out.tail⟩

end Go.Proofs.Ytokendenofbnhaa
