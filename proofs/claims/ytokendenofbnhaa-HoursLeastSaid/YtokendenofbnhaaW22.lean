/- Walk of works: the chapter's example. -/
import Derived.Test.YtokendenofbnhaaW13
import Derived.Test.YtokendenofbnhaaW16
import Derived.Test.YtokendenofbnhaaW17
import Derived.Test.YtokendenofbnhaaW18
import Derived.Test.YtokendenofbnhaaW20
import Derived.Test.YtokendenofbnhaaW21
namespace Go.Proofs.Ytokendenofbnhaa
open Go.RowKit Go.Sort

set_option maxRecDepth 100000 in
set_option maxHeartbeats 4000000 in
theorem works_any (w : World) :
    Calls Try.prog 16 #[] w fun e w' => e = .returned (.bool true) ∧ Below w.heap.size w w' := by
  go_enter Try.func16, Try.ntmps16
  go_wp2_with fail
  refine (example_any _).mono ?_
  rintro e w1 ⟨v1, v2, rfl, hr1, hr2, hb0⟩
  have HR1 := Lib.hid hr1
  have HR2 := Lib.hid hr2
  have HB0 := Lib.hid hb0
  obtain ⟨rv1, sv1, rfl, ha1, ha2⟩ := hr1
  obtain ⟨rv2, sv2, rfl, ha3, ha4⟩ := hr2
  obtain ⟨A1, c1, rfl, -, -, -⟩ := id ha1.open_
  obtain ⟨A2, c2, rfl, -, -, -⟩ := id ha2.open_
  obtain ⟨A3, c3, rfl, -, -, -⟩ := id ha3.open_
  obtain ⟨A4, c4, rfl, -, -, -⟩ := id ha4.open_
  clear ha1 ha2 ha3 ha4 hb0
  have S := Lib.hid (((St.init w1).alloc [.slice A1 exR.room.length c1, .slice A2 exR.strs.length c2] 25).alloc [.slice A3 exQ.room.length c3, .slice A4 exQ.strs.length c4] 25)
  have q0 := S.out.get 1 0 rfl rfl
  have q1 := S.out.get 1 1 rfl rfl
  go_wp2_with fail
  clear q0 q1
  refine (least_any _ exR _ (HR1.out.below S.out.bel)).mono ?_
  rintro e w2 ⟨rfl, hb⟩
  rw [ex_least]
  have S := Lib.hid (S.out.call hb)
  clear hb
  have q0 := S.out.get 1 0 rfl rfl
  have q1 := S.out.get 1 1 rfl rfl
  go_wp2_with fail
  clear q0 q1
  refine (bound_any _ exR 1 _ (HR1.out.below S.out.bel)).mono ?_
  rintro e w3 ⟨rfl, hb⟩
  rw [ex_bound]
  have S := Lib.hid (S.out.call hb)
  clear hb
  have q0 := S.out.get 1 0 rfl rfl
  have q1 := S.out.get 1 1 rfl rfl
  go_wp2_with fail
  clear q0 q1
  refine (give_any _ exR 0 _ (HR1.out.below S.out.bel)).mono ?_
  rintro e w4 ⟨rfl, hb⟩
  rw [ex_give]
  have S := Lib.hid (S.out.call hb)
  clear hb
  have q0 := S.out.get 0 0 rfl rfl
  have q1 := S.out.get 0 1 rfl rfl
  go_wp2_with fail
  clear q0 q1
  refine (pRoster_any _ exQ _ (HR2.out.below S.out.bel)).mono ?_
  rintro e w5 ⟨vl, rfl, hown, hb⟩
  rw [ex_roster] at hown ⊢
  have S := Lib.hid (S.out.take hb hown)
  obtain ⟨Al, cl, rfl⟩ := own_shape hown
  clear hb hown
  have q0 := S.out.get 1 0 rfl rfl
  have q1 := S.out.get 1 1 rfl rfl
  go_wp2_with fail
  clear q0 q1
  refine (pFar_any _ exQ _ (HR2.out.below S.out.bel)).mono ?_
  rintro e w6 ⟨rfl, hb⟩
  rw [ex_far]
  have S := Lib.hid (S.out.call hb)
  clear hb
  have q0 := S.out.get 1 0 rfl rfl
  have q1 := S.out.get 1 1 rfl rfl
  go_wp2_with fail
  clear q0 q1
  refine (fewest_any _ exQ _ (HR2.out.below S.out.bel)).mono ?_
  rintro e w7 ⟨rfl, hb⟩
  rw [ex_fewest]
  have S := Lib.hid (S.out.call hb)
  clear hb
  have q0 := S.out.get 2 0 rfl rfl
  have q1 := S.out.get 2 1 rfl rfl
  go_wp2_with fail
  clear q0 q1
  have S := Lib.hid (S.out.alloc [I 0, I 1, I 1, I 2] 3)
  have hl : Ints _ (.slice (some ⟨w7.heap.size, 0, none⟩) 4 4) [0, 1, 1, 2] := S.out.boxReads 0 rfl rfl (by omega)
  refine (swap_any _ _ exR [0, 1, 1, 2] _ (HR1.out.below S.out.bel) hl (by decide)).mono ?_
  rintro e w8 ⟨⟨res, hres, rfl⟩, hb⟩
  obtain rfl : res = ((0, 1), 0) := by
    unfold swapR at hres
    rw [if_pos ex_given] at hres
    exact hres.uniq ex_swap
  have S := Lib.hid ((S.out.call hb).alloc [I 0, I 1] 41)
  clear hb hl hres
  have z0 := S.out.get 0 0 rfl rfl
  have z1 := S.out.get 0 1 rfl rfl
  go_wp2_with fail
  have S := Lib.hid (S.out.alloc [I 1, I 1, I 3, I 2] 3)
  have hk : Ints _ (.slice (some ⟨w8.heap.size + 1, 0, none⟩) 4 4) [1, 1, 3, 2] := S.out.boxReads 0 rfl rfl (by omega)
  refine (same_any _ _ [1, 1, 3, 2] [1, 1, 3, 2] _ (S.out.ints 3 rfl) hk (by decide) (by decide)).mono ?_
  rintro e w9 ⟨rfl, hb⟩
  rw [decide_eq_true (rfl : ([1, 1, 3, 2] : List Int) = [1, 1, 3, 2])]
  have S := Lib.hid (S.out.call hb)
  clear hb hk z0 z1
  have z0 := S.out.get 1 0 rfl rfl
  have z1 := S.out.get 1 1 rfl rfl
  go_wp2_with fail
  go_ret
  exact ⟨rfl, bto HB0.out S.out.bel⟩

end Go.Proofs.Ytokendenofbnhaa
