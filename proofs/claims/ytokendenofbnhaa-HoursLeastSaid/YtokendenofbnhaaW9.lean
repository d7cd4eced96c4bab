/- Walk of begin. -/
import Derived.Test.YtokendenofbnhaaW5
import Derived.Test.YtokendenofbnhaaPlain3
import Derived.Test.YtokendenofbnhaaSt2
import Derived.Laws.CopyOwn
namespace Go.Proofs.Ytokendenofbnhaa
open Go.RowKit Go.Sort

theorem run_info_int : (Try.prog.info? 3).map (·.size) = some 1 := by kernel_rfl
theorem run_info_state : (Try.prog.info? 96).map (·.size) = some 9 := by kernel_rfl
theorem begin_row (room : List Int) (hl : room.length ≤ 8) : splice [I 0, I 0, I 0, I 0, I 0, I 0, I 0, I 0, I 0] 1 (room.map I) = I 0 :: (pad room).map I := by
  have e : ([I 0, I 0, I 0, I 0, I 0, I 0, I 0, I 0, I 0] : List Value) = List.replicate 9 (I 0) := rfl
  rw [e]
  apply List.ext_getElem?
  intro j
  simp only [splice, pad]
  rcases j with _ | j
  · rfl
  · simp only [List.getElem?_cons_succ, List.map_append, List.map_replicate, List.take_replicate]
    rw [List.getElem?_append_right (by simp)]
    simp only [List.length_replicate, Nat.add_sub_cancel, show min 1 9 = 1 by omega]
    by_cases hj : j < room.length
    · rw [List.getElem?_append_left (by simpa using hj), List.getElem?_append_left (by simpa using hj)]
    · rw [List.getElem?_append_right (by simp; omega), List.getElem?_append_right (by simp; omega)]
      simp only [List.length_map, List.getElem?_drop]
      rw [List.getElem?_replicate, List.getElem?_replicate]
      by_cases h8 : j < 8
      · rw [if_pos (by omega), if_pos (by omega)]
      · rw [if_neg (by omega), if_neg (by omega)]

set_option maxRecDepth 20000 in
set_option maxHeartbeats 2000000 in
theorem begin_any (c : Nat) (rv : Value) (room : List Int) (w : World) (h0 : w.cell? ⟨c, 0, none⟩ = some rv) (hr : Ints w rv room) (hl : room.length ≤ 8) :
    Calls Try.prog 91 #[.pointer (some ⟨c, 0, none⟩)] w fun e w' => e = .returned (stV 0 (pad room)) ∧ Below w.heap.size w w' := by
  have HR := Lib.hid hr
  obtain ⟨A, c', rfl, hc1, hc2, hcell⟩ := hr.open_
  have HC := Lib.hid hcell
  clear hcell hr
  have S := Lib.hid (show St w (w.alloc (.cells #[I 0, I 0, I 0, I 0, I 0, I 0, I 0, I 0, I 0] 96)) (w.heap.size + 1) [.box w.heap.size [I 0, I 0, I 0, I 0, I 0, I 0, I 0, I 0, I 0]] from (St.init w).alloc [I 0, I 0, I 0, I 0, I 0, I 0, I 0, I 0, I 0] 96)
  go_enter Try.func91, Try.ntmps91
  go_wp2_with fail
  refine wp_region_seg [] [0, 1, 2, 3, 4, 5, 6] [7] 7 (by kernel_rfl) (by kernel_rfl) ?_
  intro KQ hKQ w1 hb
  have S := Lib.hid (S.out.call hb)
  clear hb
  have q0 := cell_regrown (keep_cell S.out.bel h0)
  refine seg_last ?_
  simp only [opsAt, List.filterMap_cons, List.filterMap_nil, List.getElem?_toArray, List.getElem?_cons_succ, List.getElem?_cons_zero]
  repeat (first | go_big_quiet_step (fail) | quiet_step (fail))
  refine wpQuiet_nil ?_
  clear q0
  obtain ⟨T, hT⟩ := S.out.row? 0 rfl
  have hmn : (room.map I).length = Nat.min room.length 8 := by rw [List.length_map]; exact (Nat.min_eq_left hl).symm
  have hfit : 1 + (room.map I).length ≤ ([I 0, I 0, I 0, I 0, I 0, I 0, I 0, I 0, I 0] : List Value).length := by rw [List.length_map]; show 1 + room.length ≤ 9; omega
  refine wpList_copy_splice rfl (.tmp 4) (.tmp 9) 22 22 rfl 3 Try.underlying22 run_info_int _ _ 8 8 room.length c' rfl rfl w.heap.size 1 [I 0, I 0, I 0, I 0, I 0, I 0, I 0, I 0, I 0] T hT (room.map I) hmn (fun hp => by
    obtain ⟨b, o, rfl, hbl, hcell⟩ := HC.out (by simpa using hp)
    refine ⟨rfl, ⟨b, o, none⟩, rfl, fun j v hv => ?_⟩
    rw [add_plain]
    have hj := (List.getElem?_eq_some_iff.1 hv).1
    rw [List.length_map] at hj
    rw [keep_cell S.out.bel (hcell j hj)]
    rw [List.getElem?_map, List.getElem?_eq_getElem hj] at hv
    exact hv) hfit (ints_one room) w.heap.size w S.out.bel (Nat.le_refl _) ?_
  intro w2 hw2 hb2
  have hw2 : w2.heap[w.heap.size]? = some (.cells (splice [I 0, I 0, I 0, I 0, I 0, I 0, I 0, I 0, I 0] 1 (room.map I)).toArray T (0, 0)) := hw2.out
  have hres : stV 0 (pad room) = .agg (splice [I 0, I 0, I 0, I 0, I 0, I 0, I 0, I 0, I 0] 1 (room.map I)).toArray := by rw [begin_row room hl]; rfl
  have hsz : (splice [I 0, I 0, I 0, I 0, I 0, I 0, I 0, I 0, I 0] 1 (room.map I)).toArray.size = 9 := by rw [begin_row room hl]; simp [(pad_len room hl)]
  have hone : (splice [I 0, I 0, I 0, I 0, I 0, I 0, I 0, I 0, I 0] 1 (room.map I)).toArray.all (·.oneCell') = true := by
    rw [begin_row room hl, Array.all_eq_true_iff_forall_mem]
    intro v hv
    have hv : v ∈ I 0 :: (pad room).map I := by simpa using hv
    rcases List.mem_cons.1 hv with rfl | hv
    · rfl
    · exact ints_one _ v hv
  generalize (splice [I 0, I 0, I 0, I 0, I 0, I 0, I 0, I 0, I 0] 1 (room.map I)).toArray = CS at hw2 hres hsz hone
  have HB2 := Lib.hid hb2
  have hin : (Try.prog.info? 96).map (·.size) = some CS.size := by rw [hsz]; exact run_info_state
  have HRES := Lib.hid hres
  have HSZ := Lib.hid hsz
  have HW2 := Lib.hid hw2
  have HIN := Lib.hid hin
  have HONE := Lib.hid hone
  clear hb2 hres hsz hw2 hin hone hmn hfit hT
  go_wp2_with (first | (refine wpList_load_row rfl 96 (.tmp 2) rfl w.heap.size rfl T CS (0, 0) _ HW2.out Try.underlying96 rfl HIN.out ?_) | (refine wpList_store_row rfl 96 (.tmp 2) (.tmp 11) rfl w.heap.size CS rfl rfl T CS HW2.out HIN.out rfl HONE.out ?_))
  exact bodyPost_ret (results_cell_row rfl _ _ w.heap.size T CS (0, 0) _ rfl (setRow_heap _ _ _ _ _ _ HW2.out) Try.underlying96 rfl HIN.out) rfl ⟨by rw [HRES.out], below_setRow HB2.out (Nat.le_refl _) _⟩

end Go.Proofs.Ytokendenofbnhaa
