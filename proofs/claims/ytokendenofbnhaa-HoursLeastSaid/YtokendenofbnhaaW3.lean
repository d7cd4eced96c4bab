/- Walks: move, steps, once, upTo; the reference's MoveOf. -/
import Derived.Test.YtokendenofbnhaaW2
import Derived.Lib.MinMax
namespace Go.Proofs.Ytokendenofbnhaa
open Go.RowKit Go.Sort

/-- A street and an hour whose numbers are small. -/
structure Sml (s : Str) (h : Int) : Prop where
  has0 : -100 ≤ s.has
  has1 : s.has ≤ 100
  cost0 : 0 ≤ s.cost
  cost1 : s.cost ≤ 9
  h0 : -100 ≤ h
  h1 : h ≤ 100
theorem moveI_le {s : Str} {h : Int} (hs : Sml s h) : moveI s h ≤ 200 := by
  obtain ⟨a, b, c, d, e, f⟩ := hs
  unfold moveI; split <;> omega
theorem mul_bd' {a b : Int} (h1 : 0 ≤ a) (h2 : a ≤ 200) (h3 : 0 ≤ b) (h4 : b ≤ 9) : 0 ≤ a * b ∧ a * b ≤ 1800 := by
  refine ⟨Int.mul_nonneg h1 h3, ?_⟩
  have := Int.mul_le_mul h2 h4 h3 (by omega : (0:Int) ≤ 200)
  omega
theorem stepsI_bd {s : Str} {h : Int} (hs : Sml s h) : 0 ≤ stepsI s h ∧ stepsI s h ≤ 1800 := mul_bd' (moveI_nonneg s h) (moveI_le hs) hs.cost0 hs.cost1

set_option maxRecDepth 20000 in
set_option maxHeartbeats 1000000 in
theorem move_any (s : Str) (h : Int) (w : World) (hs : Sml s h) :
    Calls Try.prog 89 #[s.val, I h] w fun e w' => e = .returned (I (moveI s h)) ∧ Below w.heap.size w w' := by
  obtain ⟨a1, a2, -, -, a5, a6⟩ := hs
  by_cases h1 : s.has = -1
  · have h1' : (s.has == -1) = true := by simp [h1]
    have HE := Lib.hid (show moveI s h = 0 by simp [moveI, h1])
    clear h1
    go_enter Try.func89, Try.ntmps89
    go_wp2_with fail
    go_ret
    exact ⟨by rw [HE.out]; rfl, (Below.refl _ _).alloc (Nat.le_refl _) _⟩
  · have h1' : (s.has == -1) = false := by simp [h1]
    have HE := Lib.hid (show moveI s h = max (s.has - h) (h - s.has) by simp [moveI, h1])
    clear h1
    go_enter Try.func89, Try.ntmps89
    go_wp2_with fail
    go_ret
    exact ⟨by rw [HE.out]; rfl, (Below.refl _ _).alloc (Nat.le_refl _) _⟩

set_option maxRecDepth 20000 in
set_option maxHeartbeats 1000000 in
theorem rMove_any (s : Str) (h : Int) (w : World) (hs : Sml s h) :
    Calls Try.prog 23 #[s.val, I h] w fun e w' => e = .returned (I (moveI s h)) ∧ Below w.heap.size w w' := by
  obtain ⟨a1, a2, -, -, a5, a6⟩ := hs
  by_cases h1 : s.has = -1
  · have h1' : (s.has == -1) = true := by simp [h1]
    have HE := Lib.hid (show moveI s h = 0 by simp [moveI, h1])
    clear h1
    go_enter Try.func23, Try.ntmps23
    go_wp2_with fail
    go_ret
    exact ⟨by rw [HE.out]; rfl, (Below.refl _ _).alloc (Nat.le_refl _) _⟩
  · have h1' : (s.has == -1) = false := by simp [h1]
    have HE := Lib.hid (show moveI s h = max (s.has - h) (h - s.has) by simp [moveI, h1])
    clear h1
    go_enter Try.func23, Try.ntmps23
    go_wp2_with fail
    go_ret
    exact ⟨by rw [HE.out]; rfl, (Below.refl _ _).alloc (Nat.le_refl _) _⟩

set_option maxRecDepth 20000 in
set_option maxHeartbeats 1000000 in
theorem steps_any (s : Str) (h : Int) (w : World) (hs : Sml s h) :
    Calls Try.prog 64 #[s.val, I h] w fun e w' => e = .returned (I (stepsI s h)) ∧ Below w.heap.size w w' := by
  have S := Lib.hid (show St w (w.alloc (.cells #[I s.has, I s.frm, I s.to, I s.cost] 33)) (w.heap.size + 1) [.box w.heap.size [I s.has, I s.frm, I s.to, I s.cost]] from (St.init w).alloc [I s.has, I s.frm, I s.to, I s.cost] 33)
  have hm := moveI_nonneg s h
  have hm' := moveI_le hs
  have i1 : IntKind.i64.wrap (moveI s h * s.cost) = moveI s h * s.cost := IntWalk.i64_in _ (by have := mul_bd' hm hm' hs.cost0 hs.cost1; omega)
  go_enter Try.func64, Try.ntmps64
  go_wp2_with fail
  refine wp_region_seg [([0, 1, 3, 4], 2)] [5, 6] [] 7 (by kernel_rfl) (by kernel_rfl) ?_
  intro KQ hKQ w1 hb
  have S := Lib.hid (S.out.call hb)
  clear hb
  have k0 := cell_regrown (S.out.get 0 0 rfl rfl)
  have k1 := cell_regrown (S.out.get 0 1 rfl rfl)
  have k2 := cell_regrown (S.out.get 0 2 rfl rfl)
  have k3 := cell_regrown (S.out.get 0 3 rfl rfl)
  refine seg_next ?_
  simp only [opsAt, List.filterMap_cons, List.filterMap_nil, List.getElem?_toArray, List.getElem?_cons_succ, List.getElem?_cons_zero]
  repeat (first | go_big_quiet_step (fail) | quiet_step (fail))
  refine wpQuiet_nil ?_
  intro K hK
  refine loud_op rfl rfl ?_
  go_simp
  refine (move_any s h _ hs).mono ?_
  rintro e w2 ⟨rfl, hb⟩
  have S := Lib.hid (S.out.call hb)
  refine hK _ _ hb ?_
  clear hK K hb k0 k1 k2 k3
  have k0 := cell_regrown (S.out.get 0 0 rfl rfl)
  have k1 := cell_regrown (S.out.get 0 1 rfl rfl)
  have k2 := cell_regrown (S.out.get 0 2 rfl rfl)
  have k3 := cell_regrown (S.out.get 0 3 rfl rfl)
  refine seg_last ?_
  simp only [opsAt, List.filterMap_cons, List.filterMap_nil, List.getElem?_toArray, List.getElem?_cons_succ, List.getElem?_cons_zero]
  repeat (first | go_big_quiet_step (fail) | quiet_step (fail))
  refine wpQuiet_nil ?_
  clear k0 k1 k2 k3
  go_wp2_with fail
  go_ret
  exact ⟨rfl, S.out.bel⟩

set_option maxRecDepth 20000 in
set_option maxHeartbeats 1000000 in
theorem once_any (s : Str) (h : Int) (w : World) (hs : Sml s h) :
    Calls Try.prog 80 #[s.val, I h] w fun e w' => e = .returned (I (onceI s h)) ∧ Below w.heap.size w w' := by
  have S := Lib.hid (show St w (w.alloc (.cells #[I s.has, I s.frm, I s.to, I s.cost] 33)) (w.heap.size + 1) [.box w.heap.size [I s.has, I s.frm, I s.to, I s.cost]] from (St.init w).alloc [I s.has, I s.frm, I s.to, I s.cost] 33)
  go_enter Try.func80, Try.ntmps80
  go_wp2_with (go_at_call 89; refine (move_any s h _ hs).mono ?_; rintro e w2 ⟨rfl, hb⟩; have S := Lib.hid (S.out.call hb); clear hb)
  go_ret
  exact ⟨rfl, S.out.bel⟩

set_option maxRecDepth 20000 in
set_option maxHeartbeats 2000000 in
theorem upTo1_any (s : Str) (h far : Int) (b : Nat) (w : World) (hs : Sml s h) (hf : w.cell? ⟨b, 0, none⟩ = some (I far)) :
    Calls Try.prog 95 #[s.val, I h, .pointer (some ⟨b, 0, none⟩)] w fun e w' => e = .returned (I (upToI far s h)) ∧ Below w.heap.size w w' := by
  have S := Lib.hid (show St w (w.alloc (.cells #[I s.has, I s.frm, I s.to, I s.cost] 33)) (w.heap.size + 1) [.box w.heap.size [I s.has, I s.frm, I s.to, I s.cost]] from (St.init w).alloc [I s.has, I s.frm, I s.to, I s.cost] 33)
  have kf := box_old w (.cells #[I s.has, I s.frm, I s.to, I s.cost] 33) hf
  by_cases hc : far < moveI s h
  · have HE := Lib.hid (show upToI far s h = -1 by simp only [upToI]; rw [if_pos (by omega)])
    go_enter Try.func95, Try.ntmps95
    go_wp2_with fail
    refine wp_region_seg [([0, 1, 3], 2)] [4] [] 5 (by kernel_rfl) (by kernel_rfl) ?_
    intro KQ hKQ w1 hb
    have S := Lib.hid (S.out.call hb)
    have kf := keep_cell hb kf
    clear hb
    have kg := cell_regrown kf
    have k0 := cell_regrown (S.out.get 0 0 rfl rfl)
    have k1 := cell_regrown (S.out.get 0 1 rfl rfl)
    have k2 := cell_regrown (S.out.get 0 2 rfl rfl)
    have k3 := cell_regrown (S.out.get 0 3 rfl rfl)
    refine seg_next ?_
    simp only [opsAt, List.filterMap_cons, List.filterMap_nil, List.getElem?_toArray, List.getElem?_cons_succ, List.getElem?_cons_zero]
    repeat (first | go_big_quiet_step (fail) | quiet_step (fail))
    refine wpQuiet_nil ?_
    intro K hK
    refine loud_op rfl rfl ?_
    go_simp
    refine (move_any s h _ hs).mono ?_
    rintro e w2 ⟨rfl, hb⟩
    have S := Lib.hid (S.out.call hb)
    have kf := keep_cell hb kf
    refine hK _ _ hb ?_
    clear hK K hb k0 k1 k2 k3
    have kg := cell_regrown kf
    have k0 := cell_regrown (S.out.get 0 0 rfl rfl)
    have k1 := cell_regrown (S.out.get 0 1 rfl rfl)
    have k2 := cell_regrown (S.out.get 0 2 rfl rfl)
    have k3 := cell_regrown (S.out.get 0 3 rfl rfl)
    refine seg_last ?_
    simp only [opsAt, List.filterMap_cons, List.filterMap_nil, List.getElem?_toArray, List.getElem?_cons_succ, List.getElem?_cons_zero]
    repeat (first | go_big_quiet_step (fail) | quiet_step (fail))
    refine wpQuiet_nil ?_
    have j0 := S.out.get 0 0 rfl rfl
    have j1 := S.out.get 0 1 rfl rfl
    have j2 := S.out.get 0 2 rfl rfl
    have j3 := S.out.get 0 3 rfl rfl
    clear k0 k1 k2 k3 kg kf
    go_wp2_with fail
    go_ret
    exact ⟨by rw [HE.out]; rfl, S.out.bel⟩
  · have HE := Lib.hid (show upToI far s h = stepsI s h by simp only [upToI]; rw [if_neg (by omega)])
    go_enter Try.func95, Try.ntmps95
    go_wp2_with fail
    refine wp_region_seg [([0, 1, 3], 2)] [4] [] 5 (by kernel_rfl) (by kernel_rfl) ?_
    intro KQ hKQ w1 hb
    have S := Lib.hid (S.out.call hb)
    have kf := keep_cell hb kf
    clear hb
    have kg := cell_regrown kf
    have k0 := cell_regrown (S.out.get 0 0 rfl rfl)
    have k1 := cell_regrown (S.out.get 0 1 rfl rfl)
    have k2 := cell_regrown (S.out.get 0 2 rfl rfl)
    have k3 := cell_regrown (S.out.get 0 3 rfl rfl)
    refine seg_next ?_
    simp only [opsAt, List.filterMap_cons, List.filterMap_nil, List.getElem?_toArray, List.getElem?_cons_succ, List.getElem?_cons_zero]
    repeat (first | go_big_quiet_step (fail) | quiet_step (fail))
    refine wpQuiet_nil ?_
    intro K hK
    refine loud_op rfl rfl ?_
    go_simp
    refine (move_any s h _ hs).mono ?_
    rintro e w2 ⟨rfl, hb⟩
    have S := Lib.hid (S.out.call hb)
    have kf := keep_cell hb kf
    refine hK _ _ hb ?_
    clear hK K hb k0 k1 k2 k3
    have kg := cell_regrown kf
    have k0 := cell_regrown (S.out.get 0 0 rfl rfl)
    have k1 := cell_regrown (S.out.get 0 1 rfl rfl)
    have k2 := cell_regrown (S.out.get 0 2 rfl rfl)
    have k3 := cell_regrown (S.out.get 0 3 rfl rfl)
    refine seg_last ?_
    simp only [opsAt, List.filterMap_cons, List.filterMap_nil, List.getElem?_toArray, List.getElem?_cons_succ, List.getElem?_cons_zero]
    repeat (first | go_big_quiet_step (fail) | quiet_step (fail))
    refine wpQuiet_nil ?_
    have j0 := S.out.get 0 0 rfl rfl
    have j1 := S.out.get 0 1 rfl rfl
    have j2 := S.out.get 0 2 rfl rfl
    have j3 := S.out.get 0 3 rfl rfl
    clear k0 k1 k2 k3 kg kf
    go_wp2_with (go_at_call 64; refine (steps_any s h _ hs).mono ?_; rintro e w3 ⟨rfl, hb⟩; have S := Lib.hid (S.out.call hb); clear hb j0 j1 j2 j3)
    go_ret
    exact ⟨by rw [HE.out]; rfl, S.out.bel⟩

end Go.Proofs.Ytokendenofbnhaa
