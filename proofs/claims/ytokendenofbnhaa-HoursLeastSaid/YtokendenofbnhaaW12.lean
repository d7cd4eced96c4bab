/- Walks: roster (two ways). -/
import Derived.Test.YtokendenofbnhaaW11
import Derived.Deep.LoopGhost
namespace Go.Proofs.Ytokendenofbnhaa
open Go.RowKit Go.Sort

theorem rosterP_length (w : Str → Int → Int) : ∀ (ss : List Str) (left : List Int), (rosterP w ss left).length = ss.length
  | [], _ => rfl
  | s :: ss, left => by simp [rosterP, rosterP_length w ss]
theorem st_one (k : Int) (left : List Int) : ∀ v ∈ I k :: left.map I, v.oneCell' = true := fun v hv => by
  rcases List.mem_cons.1 hv with rfl | hv
  · rfl
  · exact ints_one _ v hv

set_option maxRecDepth 20000 in
set_option maxHeartbeats 4000000 in
theorem rosterSteps_any (w0 : World) (ss : List Str) (room : List Int) (rv : Value) (A : Option Addr) (cs c m : Nat) (hss : Strs w0 (.slice A ss.length cs) ss) (hsl : ss.length ≤ 6) (hok : ∀ s ∈ ss, StrOk s) (hr : Ints w0 rv room) (hl : room.length ≤ 8) (hrm : ∀ x ∈ room, 0 ≤ x ∧ x ≤ 7)
    (hn : 0 ≤ (bestP stepsI ss (pad room)).2) (w : World) (L : List Item) (hS : St w0 w w.heap.size (.any m (MemoP fun k l => bestP stepsI (ss.drop k) l) :: .box c [rv, .slice A ss.length cs, .func (.func 64) #[] #[], .map (some m)] :: L)) :
    Calls Try.prog 65 #[.pointer (some ⟨c, 0, none⟩)] w fun e w' => ∃ v, e = .returned v ∧ St w0 w' w'.heap.size (.own 3 1 v ss.length ((rosterP stepsI ss (pad room)).map I) :: .any m (MemoP fun k l => bestP stepsI (ss.drop k) l) :: .box c [rv, .slice A ss.length cs, .func (.func 64) #[] #[], .map (some m)] :: L) := by
  obtain ⟨i0, hi, hz0, hz1, hz2⟩ := info_parts Try.info3
  have h02 : 0 < 1 := by omega
  have h0 := hS.get 1 0 rfl rfl
  have HS := Lib.hid hS

  have hp9 := (pad_ok hl hrm)
  have HN := Lib.hid hn
  have HP := Lib.hid hp9

  clear hS hn hp9
  go_enter Try.func65, Try.ntmps65
  go_wp2_with fail
  refine (begin_any c rv room _ h0 (hr.below HS.out.bel) hl).mono ?_
  rintro e w1 ⟨rfl, hb⟩
  have S := Lib.hid ((((HS.out.call hb).nil 3 1).alloc [I 0, I 0, I 0, I 0, I 0, I 0, I 0, I 0, I 0] 96))
  clear hb h0
  have HZ := Lib.hid (show (Try.prog.info? 96).map (·.size) = some (I ((0 : Nat) : Int) :: (pad room).map I).length by rw [List.length_cons, List.length_map, HP.out.len]; exact run_info_state)
  go_wp2_with (refine wpList_store_St S.out 0 rfl 96 (.tmp 4) (.tmp 7) rfl rfl rfl (I ((0 : Nat) : Int) :: (pad room).map I) rfl HZ.out (by simp [HP.out.len]) (st_one _ _) ?_; intro w2 hS2; have S := Lib.hid hS2; clear hS2)
  clear HZ
  go_frame
  go_loopg [3, 4] ss.length (fun q u p wr => ∃ (k : Nat) (left done : List Int) (b : Nat) (v : Value), k + q = ss.length ∧ v = u ∧ p = .pointer (some ⟨b, 0, none⟩) ∧ Hid (LOk left) ∧ Hid (rosterP stepsI ss (pad room) = done ++ rosterP stepsI (ss.drop k) left) ∧ Hid (0 ≤ (bestP stepsI (ss.drop k) left).2) ∧ Hid (done.length = k) ∧ Hid (St w0 wr wr.heap.size (.box b (I (k : Int) :: left.map I) :: .own 3 1 v done.length (done.map I) :: .any m (MemoP fun k l => bestP stepsI (ss.drop k) l) :: .box c [rv, .slice A ss.length cs, .func (.func 64) #[] #[], .map (some m)] :: L)))
  case atStart => exact ⟨0, pad room, [], w1.heap.size, _, by omega, rfl, rfl, HP, Lib.hid rfl, HN, Lib.hid rfl, S⟩
  case round =>
    clear S HP HN HS
    obtain ⟨k, left, done, b, v, hkq, rfl, rfl, HL, HPA, HB, HD, S⟩ := hrel
    by_cases hlt : k < ss.length
    · have hki : (k : Int) < (ss.length : Int) := by omega
      have hk6 : k ≤ 6 := by omega
      obtain ⟨s, hs⟩ : ∃ s, ss[k] = s := ⟨_, rfl⟩
      have hsd : ss.drop k = s :: ss.drop (k + 1) := by rw [List.drop_eq_getElem_cons hlt, hs]
      have hso : StrOk s := hok s (by rw [← hs]; exact List.getElem_mem hlt)
      obtain ⟨hb1, hb2, hb3, hb4⟩ := best_step (w := stepsI) (s := s) (ss := ss.drop (k + 1)) (left := left) (by rw [← hsd]; exact HB.out)
      have hro : rosterP stepsI (ss.drop k) left = (bestP stepsI (ss.drop k) left).2 :: rosterP stepsI (ss.drop (k + 1)) (dec left (bestP stepsI (ss.drop k) left).2) := by rw [hsd]; rfl
      rw [← hsd] at hb1 hb2 hb3 hb4
      obtain ⟨⟨x, h⟩, hxh⟩ : ∃ p, bestP stepsI (ss.drop k) left = p := ⟨_, rfl⟩
      rw [hxh] at hb1 hb2 hb3 hb4 hro
      simp only at hb1 hb2 hb3 hb4 hro
      have hh0 : 0 ≤ h := by have := hso.frm0; omega
      have hh7 : h ≤ 7 := by have := hso.to1; omega
      have HX := Lib.hid hxh
      have HR := Lib.hid hro
      have H3 := Lib.hid hb3
      have H4 := Lib.hid hb4
      have hdl : done.length ≤ 6 := by have := HD.out; omega
      clear hxh hro hb3 hb4 hb1 hb2 hsd hs hso
      go_wp2_with fail
      refine wp_region_seg [] [0, 1, 2, 3, 4, 5, 6, 7, 8] [] 9 (by kernel_rfl) (by kernel_rfl) ?_
      intro KQ hKQ w3 hb
      have S := Lib.hid (S.out.call hb)
      clear hb
      have q0_0 := cell_regrown (S.out.get 0 0 rfl rfl)
      have q3_1 := cell_regrown (S.out.get 3 1 rfl rfl)
      refine seg_last ?_
      simp only [opsAt, List.filterMap_cons, List.filterMap_nil, List.getElem?_toArray, List.getElem?_cons_succ, List.getElem?_cons_zero]
      repeat (first | go_big_quiet_step (fail) | quiet_step (fail))
      refine wpQuiet_nil ?_
      clear q0_0 q3_1
      have HZ := Lib.hid (show (Try.prog.info? 96).map (·.size) = some (I (k : Int) :: left.map I).length by rw [List.length_cons, List.length_map, HL.out.len]; exact run_info_state)
      go_wp2_with (refine wpList_load_St S.out 0 rfl 96 (.tmp 4) rfl rfl rfl _ Try.underlying96 rfl HZ.out ?_)
      refine (bestSteps_any w0 ss rv A cs c m hss hsl hok (ss.length - k) k left _ _ (by omega) HL.out (S.out.rot2 [.box b (I (k : Int) :: left.map I), .own 3 1 v done.length (done.map I)])).mono ?_
      rintro e w4 ⟨rfl, hS4⟩
      rw [HX.out, show ansV (x, h) = .agg #[I x, I h] from rfl]
      have S := Lib.hid ((hS4.unrot2 [.box b (I (k : Int) :: left.map I), .own 3 1 v done.length (done.map I)]).alloc [I h] 3)
      clear hS4
      have hfd : ∀ w, (Instr.field 102 (.agg #[I x, I h]) 1).run Try.prog w = .ok (I h) w := fun _ => by kernel_rfl
      have h63 : done.length + 1 ≤ maxLen := by simp only [maxLen]; omega
      have hby : (done.length + 1) * 8 ≤ 140737488355328 := by omega
      go_wp2_with (first | (at_builtin; refine wpList_append_St S.out 2 rfl _ _ 22 rfl 3 i0 (.int .i64 0) 1 8 Try.underlying22 hi hz0 hz1 hz2 rfl h02 rfl rfl _ 1 [I h] rfl (reads_box1 (S.out.get 0 0 rfl rfl)) (ints_one [h]) h63 hby ?_; intro v' w5 hS5; have S := Lib.hid hS5.tail; clear hS5) | (refine wpList_load_St S.out 0 rfl 96 (.tmp 4) rfl rfl rfl _ Try.underlying96 rfl HZ.out ?_))
      refine (with_any (k : Int) h left _ ⟨HL.out.len, by omega, by omega, fun x hx => by have := HL.out.lo x hx; omega⟩ hh0 hh7).mono ?_
      rintro e w6 ⟨rfl, hb⟩
      have S := Lib.hid (S.out.call hb)
      clear hb HZ
      have HLD := Lib.hid (HL.out.dec H3.out)
      have HZ := Lib.hid (show (Try.prog.info? 96).map (·.size) = some (I ((k : Int) + 1) :: (dec left h).map I).length by rw [List.length_cons, List.length_map, HLD.out.len]; exact run_info_state)
      have HE := Lib.hid (show (I (k : Int) :: left.map I).length = (I ((k : Int) + 1) :: (dec left h).map I).length by simp [HL.out.len, HLD.out.len])
      have HE9 := Lib.hid (show ([I 0, I 0, I 0, I 0, I 0, I 0, I 0, I 0, I 0] : List Value).length = (I ((k : Int) + 1) :: (dec left h).map I).length by simp [HLD.out.len])
      go_wp2_with (first | (refine wpList_load_St S.out 0 rfl 96 (.tmp 4) rfl rfl rfl _ Try.underlying96 rfl HZ.out ?_) | (refine wpList_store_St S.out 0 rfl 96 (.tmp 4) (.tmp 27) rfl rfl rfl (I ((k : Int) + 1) :: (dec left h).map I) rfl HZ.out HE.out (st_one _ _) ?_; intro w7 hS7; have S := Lib.hid hS7; clear hS7) | (refine wpList_store_St (S.out.alloc [I 0, I 0, I 0, I 0, I 0, I 0, I 0, I 0, I 0] 96) 0 rfl 96 (.tmp 4) (.tmp 28) rfl rfl rfl (I ((k : Int) + 1) :: (dec left h).map I) rfl HZ.out HE9.out (st_one _ _) ?_; intro w8 hS8; have S := Lib.hid (hS8.drop 1); clear hS8))
      go_frame
      go_roundg (gk - 1)
      case measure => omega
      case rel => exact ⟨k + 1, dec left h, done ++ [h], _, _, by omega, rfl, rfl, HLD, Lib.hid (by rw [HPA.out, HR.out]; simp), H4, Lib.hid (by simp [HD.out]), Lib.hid (by
        have q := S.out
        rw [show ((k : Int) + 1) = ((k + 1 : Nat) : Int) by simp] at q
        simpa using q)⟩
    · have hke : ¬ ((k : Int) < (ss.length : Int)) := by omega
      go_wp2_with fail
      refine wp_region_seg [] [0, 1, 2, 3, 4, 5, 6, 7, 8] [] 9 (by kernel_rfl) (by kernel_rfl) ?_
      intro KQ hKQ w3 hb
      have S := Lib.hid (S.out.call hb)
      clear hb
      have q0_0 := cell_regrown (S.out.get 0 0 rfl rfl)
      have q3_1 := cell_regrown (S.out.get 3 1 rfl rfl)
      refine seg_last ?_
      simp only [opsAt, List.filterMap_cons, List.filterMap_nil, List.getElem?_toArray, List.getElem?_cons_succ, List.getElem?_cons_zero]
      repeat (first | go_big_quiet_step (fail) | quiet_step (fail))
      refine wpQuiet_nil ?_
      clear q0_0 q3_1
      go_wp2_with fail
      go_ret
      have hd : rosterP stepsI ss (pad room) = done := by rw [HPA.out, List.drop_eq_nil_of_le (by omega)]; simp [rosterP]
      have hdl : done.length = ss.length := by have := HD.out; omega
      have q := S.out.tail
      rw [hdl] at q
      exact ⟨v, rfl, by rw [hd]; exact q⟩

set_option maxRecDepth 20000 in
set_option maxHeartbeats 4000000 in
theorem rosterUp_any (w0 : World) (ss : List Str) (room : List Int) (rv : Value) (A : Option Addr) (cs c m : Nat) (far : Int) (bf : Nat) (hss : Strs w0 (.slice A ss.length cs) ss) (hsl : ss.length ≤ 6) (hok : ∀ s ∈ ss, StrOk s) (hf : w0.cell? ⟨bf, 0, none⟩ = some (I far)) (hr : Ints w0 rv room) (hl : room.length ≤ 8) (hrm : ∀ x ∈ room, 0 ≤ x ∧ x ≤ 7)
    (hn : 0 ≤ (bestP (upToI far) ss (pad room)).2) (w : World) (L : List Item) (hS : St w0 w w.heap.size (.any m (MemoP fun k l => bestP (upToI far) (ss.drop k) l) :: .box c [rv, .slice A ss.length cs, .func (.func 95) #[] #[.pointer (some ⟨bf, 0, none⟩)], .map (some m)] :: L)) :
    Calls Try.prog 65 #[.pointer (some ⟨c, 0, none⟩)] w fun e w' => ∃ v, e = .returned v ∧ St w0 w' w'.heap.size (.own 3 1 v ss.length ((rosterP (upToI far) ss (pad room)).map I) :: .any m (MemoP fun k l => bestP (upToI far) (ss.drop k) l) :: .box c [rv, .slice A ss.length cs, .func (.func 95) #[] #[.pointer (some ⟨bf, 0, none⟩)], .map (some m)] :: L) := by
  obtain ⟨i0, hi, hz0, hz1, hz2⟩ := info_parts Try.info3
  have h02 : 0 < 1 := by omega
  have h0 := hS.get 1 0 rfl rfl
  have HS := Lib.hid hS
  have HF := Lib.hid hf
  have hp9 := (pad_ok hl hrm)
  have HN := Lib.hid hn
  have HP := Lib.hid hp9
  clear hf
  clear hS hn hp9
  go_enter Try.func65, Try.ntmps65
  go_wp2_with fail
  refine (begin_any c rv room _ h0 (hr.below HS.out.bel) hl).mono ?_
  rintro e w1 ⟨rfl, hb⟩
  have S := Lib.hid ((((HS.out.call hb).nil 3 1).alloc [I 0, I 0, I 0, I 0, I 0, I 0, I 0, I 0, I 0] 96))
  clear hb h0
  have HZ := Lib.hid (show (Try.prog.info? 96).map (·.size) = some (I ((0 : Nat) : Int) :: (pad room).map I).length by rw [List.length_cons, List.length_map, HP.out.len]; exact run_info_state)
  go_wp2_with (refine wpList_store_St S.out 0 rfl 96 (.tmp 4) (.tmp 7) rfl rfl rfl (I ((0 : Nat) : Int) :: (pad room).map I) rfl HZ.out (by simp [HP.out.len]) (st_one _ _) ?_; intro w2 hS2; have S := Lib.hid hS2; clear hS2)
  clear HZ
  go_frame
  go_loopg [3, 4] ss.length (fun q u p wr => ∃ (k : Nat) (left done : List Int) (b : Nat) (v : Value), k + q = ss.length ∧ v = u ∧ p = .pointer (some ⟨b, 0, none⟩) ∧ Hid (LOk left) ∧ Hid (rosterP (upToI far) ss (pad room) = done ++ rosterP (upToI far) (ss.drop k) left) ∧ Hid (0 ≤ (bestP (upToI far) (ss.drop k) left).2) ∧ Hid (done.length = k) ∧ Hid (St w0 wr wr.heap.size (.box b (I (k : Int) :: left.map I) :: .own 3 1 v done.length (done.map I) :: .any m (MemoP fun k l => bestP (upToI far) (ss.drop k) l) :: .box c [rv, .slice A ss.length cs, .func (.func 95) #[] #[.pointer (some ⟨bf, 0, none⟩)], .map (some m)] :: L)))
  case atStart => exact ⟨0, pad room, [], w1.heap.size, _, by omega, rfl, rfl, HP, Lib.hid rfl, HN, Lib.hid rfl, S⟩
  case round =>
    clear S HP HN HS
    obtain ⟨k, left, done, b, v, hkq, rfl, rfl, HL, HPA, HB, HD, S⟩ := hrel
    by_cases hlt : k < ss.length
    · have hki : (k : Int) < (ss.length : Int) := by omega
      have hk6 : k ≤ 6 := by omega
      obtain ⟨s, hs⟩ : ∃ s, ss[k] = s := ⟨_, rfl⟩
      have hsd : ss.drop k = s :: ss.drop (k + 1) := by rw [List.drop_eq_getElem_cons hlt, hs]
      have hso : StrOk s := hok s (by rw [← hs]; exact List.getElem_mem hlt)
      obtain ⟨hb1, hb2, hb3, hb4⟩ := best_step (w := (upToI far)) (s := s) (ss := ss.drop (k + 1)) (left := left) (by rw [← hsd]; exact HB.out)
      have hro : rosterP (upToI far) (ss.drop k) left = (bestP (upToI far) (ss.drop k) left).2 :: rosterP (upToI far) (ss.drop (k + 1)) (dec left (bestP (upToI far) (ss.drop k) left).2) := by rw [hsd]; rfl
      rw [← hsd] at hb1 hb2 hb3 hb4
      obtain ⟨⟨x, h⟩, hxh⟩ : ∃ p, bestP (upToI far) (ss.drop k) left = p := ⟨_, rfl⟩
      rw [hxh] at hb1 hb2 hb3 hb4 hro
      simp only at hb1 hb2 hb3 hb4 hro
      have hh0 : 0 ≤ h := by have := hso.frm0; omega
      have hh7 : h ≤ 7 := by have := hso.to1; omega
      have HX := Lib.hid hxh
      have HR := Lib.hid hro
      have H3 := Lib.hid hb3
      have H4 := Lib.hid hb4
      have hdl : done.length ≤ 6 := by have := HD.out; omega
      clear hxh hro hb3 hb4 hb1 hb2 hsd hs hso
      go_wp2_with fail
      refine wp_region_seg [] [0, 1, 2, 3, 4, 5, 6, 7, 8] [] 9 (by kernel_rfl) (by kernel_rfl) ?_
      intro KQ hKQ w3 hb
      have S := Lib.hid (S.out.call hb)
      clear hb
      have q0_0 := cell_regrown (S.out.get 0 0 rfl rfl)
      have q3_1 := cell_regrown (S.out.get 3 1 rfl rfl)
      refine seg_last ?_
      simp only [opsAt, List.filterMap_cons, List.filterMap_nil, List.getElem?_toArray, List.getElem?_cons_succ, List.getElem?_cons_zero]
      repeat (first | go_big_quiet_step (fail) | quiet_step (fail))
      refine wpQuiet_nil ?_
      clear q0_0 q3_1
      have HZ := Lib.hid (show (Try.prog.info? 96).map (·.size) = some (I (k : Int) :: left.map I).length by rw [List.length_cons, List.length_map, HL.out.len]; exact run_info_state)
      go_wp2_with (refine wpList_load_St S.out 0 rfl 96 (.tmp 4) rfl rfl rfl _ Try.underlying96 rfl HZ.out ?_)
      refine (bestUp_any w0 ss rv A cs c m far bf hss hsl hok HF.out (ss.length - k) k left _ _ (by omega) HL.out (S.out.rot2 [.box b (I (k : Int) :: left.map I), .own 3 1 v done.length (done.map I)])).mono ?_
      rintro e w4 ⟨rfl, hS4⟩
      rw [HX.out, show ansV (x, h) = .agg #[I x, I h] from rfl]
      have S := Lib.hid ((hS4.unrot2 [.box b (I (k : Int) :: left.map I), .own 3 1 v done.length (done.map I)]).alloc [I h] 3)
      clear hS4
      have hfd : ∀ w, (Instr.field 102 (.agg #[I x, I h]) 1).run Try.prog w = .ok (I h) w := fun _ => by kernel_rfl
      have h63 : done.length + 1 ≤ maxLen := by simp only [maxLen]; omega
      have hby : (done.length + 1) * 8 ≤ 140737488355328 := by omega
      go_wp2_with (first | (at_builtin; refine wpList_append_St S.out 2 rfl _ _ 22 rfl 3 i0 (.int .i64 0) 1 8 Try.underlying22 hi hz0 hz1 hz2 rfl h02 rfl rfl _ 1 [I h] rfl (reads_box1 (S.out.get 0 0 rfl rfl)) (ints_one [h]) h63 hby ?_; intro v' w5 hS5; have S := Lib.hid hS5.tail; clear hS5) | (refine wpList_load_St S.out 0 rfl 96 (.tmp 4) rfl rfl rfl _ Try.underlying96 rfl HZ.out ?_))
      refine (with_any (k : Int) h left _ ⟨HL.out.len, by omega, by omega, fun x hx => by have := HL.out.lo x hx; omega⟩ hh0 hh7).mono ?_
      rintro e w6 ⟨rfl, hb⟩
      have S := Lib.hid (S.out.call hb)
      clear hb HZ
      have HLD := Lib.hid (HL.out.dec H3.out)
      have HZ := Lib.hid (show (Try.prog.info? 96).map (·.size) = some (I ((k : Int) + 1) :: (dec left h).map I).length by rw [List.length_cons, List.length_map, HLD.out.len]; exact run_info_state)
      have HE := Lib.hid (show (I (k : Int) :: left.map I).length = (I ((k : Int) + 1) :: (dec left h).map I).length by simp [HL.out.len, HLD.out.len])
      have HE9 := Lib.hid (show ([I 0, I 0, I 0, I 0, I 0, I 0, I 0, I 0, I 0] : List Value).length = (I ((k : Int) + 1) :: (dec left h).map I).length by simp [HLD.out.len])
      go_wp2_with (first | (refine wpList_load_St S.out 0 rfl 96 (.tmp 4) rfl rfl rfl _ Try.underlying96 rfl HZ.out ?_) | (refine wpList_store_St S.out 0 rfl 96 (.tmp 4) (.tmp 27) rfl rfl rfl (I ((k : Int) + 1) :: (dec left h).map I) rfl HZ.out HE.out (st_one _ _) ?_; intro w7 hS7; have S := Lib.hid hS7; clear hS7) | (refine wpList_store_St (S.out.alloc [I 0, I 0, I 0, I 0, I 0, I 0, I 0, I 0, I 0] 96) 0 rfl 96 (.tmp 4) (.tmp 28) rfl rfl rfl (I ((k : Int) + 1) :: (dec left h).map I) rfl HZ.out HE9.out (st_one _ _) ?_; intro w8 hS8; have S := Lib.hid (hS8.drop 1); clear hS8))
      go_frame
      go_roundg (gk - 1)
      case measure => omega
      case rel => exact ⟨k + 1, dec left h, done ++ [h], _, _, by omega, rfl, rfl, HLD, Lib.hid (by rw [HPA.out, HR.out]; simp), H4, Lib.hid (by simp [HD.out]), Lib.hid (by
        have q := S.out
        rw [show ((k : Int) + 1) = ((k + 1 : Nat) : Int) by simp] at q
        simpa using q)⟩
    · have hke : ¬ ((k : Int) < (ss.length : Int)) := by omega
      go_wp2_with fail
      refine wp_region_seg [] [0, 1, 2, 3, 4, 5, 6, 7, 8] [] 9 (by kernel_rfl) (by kernel_rfl) ?_
      intro KQ hKQ w3 hb
      have S := Lib.hid (S.out.call hb)
      clear hb
      have q0_0 := cell_regrown (S.out.get 0 0 rfl rfl)
      have q3_1 := cell_regrown (S.out.get 3 1 rfl rfl)
      refine seg_last ?_
      simp only [opsAt, List.filterMap_cons, List.filterMap_nil, List.getElem?_toArray, List.getElem?_cons_succ, List.getElem?_cons_zero]
      repeat (first | go_big_quiet_step (fail) | quiet_step (fail))
      refine wpQuiet_nil ?_
      clear q0_0 q3_1
      go_wp2_with fail
      go_ret
      have hd : rosterP (upToI far) ss (pad room) = done := by rw [HPA.out, List.drop_eq_nil_of_le (by omega)]; simp [rosterP]
      have hdl : done.length = ss.length := by have := HD.out; omega
      have q := S.out.tail
      rw [hdl] at q
      exact ⟨v, rfl, by rw [hd]; exact q⟩

end Go.Proofs.Ytokendenofbnhaa
