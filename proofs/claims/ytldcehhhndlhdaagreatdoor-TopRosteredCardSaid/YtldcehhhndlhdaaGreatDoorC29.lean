/- Walks: known (two ways), Least, Fewest. -/
import Derived.Test.YtldcehhhndlhdaaGreatDoorC28
import Derived.Deep.LoopGhost
import Derived.Test.YtldcehhhndlhdaaGreatDoorC27
import Derived.Test.YtldcehhhndlhdaaGreatDoorC8
import Derived.Test.YtldcehhhndlhdaaGreatDoorC3
import Derived.Test.YtldcehhhndlhdaaGreatDoorC7
namespace Go.Proofs.YtldcehhhndlhdaaGreatDoor.Hr
open Go.RowKit Go.Sort

theorem _root_.Go.Proofs.YtldcehhhndlhdaaGreatDoor.St.rebaseH {w0 w1 w : World} {n : Nat} {L : List Item} (h : St w1 w n L) (hb : Below w0.heap.size w0 w1) : St w0 w n L :=
  ⟨h.size, bto hb h.bel, fun x hx => by
    have := h.ok x hx
    cases x with
    | box b cs => exact ⟨Nat.le_trans hb.size this.1, this.2⟩
    | own e size v m xs => exact own_base' this hb.size
    | any b p => exact ⟨Nat.le_trans hb.size this.1, this.2⟩, h.apart⟩

set_option maxRecDepth 20000 in
set_option maxHeartbeats 1000000 in
theorem knownSteps_err (v : Value) (r : Ros) (is : Bool) (w : World) (hv : RosAt w v r) (h : askE r is ≠ 0) :
    Calls Tryz.prog 27 #[v, .bool is, .func (.func 28) #[] #[]] w fun e w' => e = .returned (.tuple #[.pointer none, I 0, I (askE r is)]) ∧ Below w.heap.size w w' := by
  obtain ⟨rv, sv, rfl, hr, hs⟩ := hv
  obtain ⟨A1, c1, rfl, hr1, hr2, -⟩ := hr.open_
  obtain ⟨A2, c2, rfl, hs1, hs2, -⟩ := hs.open_
  have HR := Lib.hid hr
  have HS := Lib.hid hs
  clear hr hs
  have S := Lib.hid (show St w (w.alloc (.cells #[.slice A1 r.room.length c1, .slice A2 r.strs.length c2] 25)) (w.heap.size + 1) [.box w.heap.size [.slice A1 r.room.length c1, .slice A2 r.strs.length c2]] from (St.init w).alloc [.slice A1 r.room.length c1, .slice A2 r.strs.length c2] 25)
  have h' : (askE r is != 0) = true := by simp [h]
  have HE := Lib.hid h
  clear h
  obtain ⟨er, her⟩ : ∃ x, askE r is = x := ⟨_, rfl⟩
  rw [her] at h'
  have HX := Lib.hid her
  clear her
  go_enter Tryz.func27, Tryz.ntmps27
  go_wp2_with fail
  refine (ask_any _ r is _ ⟨_, _, rfl, HR.out.below S.out.bel, HS.out.below S.out.bel⟩).mono ?_
  rintro e w1 ⟨rfl, hb⟩
  rw [HX.out]
  have S := Lib.hid (S.out.call hb)
  clear hb
  go_wp2_with fail
  go_ret3
  exact ⟨by rw [HX.out]; rfl, S.out.bel⟩

set_option maxRecDepth 20000 in
set_option maxHeartbeats 1000000 in
theorem knownSteps_none (v : Value) (r : Ros) (is : Bool) (w : World) (hv : RosAt w v r) (h : askE r is = 0) (hn : (bestR stepsI r).2 < 0) :
    Calls Tryz.prog 27 #[v, .bool is, .func (.func 28) #[] #[]] w fun e w' => e = .returned (.tuple #[.pointer none, I 0, I 3]) ∧ Below w.heap.size w w' := by
  obtain ⟨rv, sv, rfl, hr, hs⟩ := hv
  obtain ⟨A1, c1, rfl, hr1, hr2, -⟩ := hr.open_
  obtain ⟨A2, c2, rfl, hs1, hs2, -⟩ := hs.open_
  have HR := Lib.hid hr
  have HS := Lib.hid hs
  clear hr hs
  have S := Lib.hid (show St w (w.alloc (.cells #[.slice A1 r.room.length c1, .slice A2 r.strs.length c2] 25)) (w.heap.size + 1) [.box w.heap.size [.slice A1 r.room.length c1, .slice A2 r.strs.length c2]] from (St.init w).alloc [.slice A1 r.room.length c1, .slice A2 r.strs.length c2] 25)
  have hok := valid_iff.1 (askE_zero.1 h).1
  have HE := Lib.hid h
  clear h
  go_enter Tryz.func27, Tryz.ntmps27
  go_wp2_with fail
  refine (ask_any _ r is _ ⟨_, _, rfl, HR.out.below S.out.bel, HS.out.below S.out.bel⟩).mono ?_
  rintro e w1 ⟨rfl, hb⟩
  rw [HE.out]
  have S := Lib.hid (S.out.call hb)
  clear hb
  have q0 := S.out.get 0 0 rfl rfl
  have q1 := S.out.get 0 1 rfl rfl
  go_wp2_with fail
  clear q0 q1
  refine (hire_any _ (.func 28) #[] #[] r (fun k l => bestP stepsI (r.strs.drop k) l) _ ⟨_, _, rfl, HR.out.below S.out.bel, HS.out.below S.out.bel⟩).mono ?_
  rintro e w2 ⟨c, m, rv', sv', he, rfl, hS⟩
  simp only [Value.agg.injEq] at he
  have he := congrArg Array.toList he
  simp only [List.cons.injEq, and_true] at he
  obtain ⟨rfl, rfl⟩ := he
  have hS := hS.perm (List.Perm.swap ..)
  go_wp2_with fail
  refine (leastSteps_any w1 r.strs r.room (.slice A1 r.room.length c1) A2 c2 c m (HS.out.below S.out.bel) hok.sl (fun s hs => (hok.so s hs).1) (HR.out.below S.out.bel) hok.rl (fun x hx => by have := hok.rm x hx; omega) w2 [] hS).mono ?_
  rintro e w3 ⟨rfl, hS3⟩
  clear hS
  obtain ⟨⟨x, y⟩, hxy⟩ : ∃ p, bestP stepsI r.strs (pad r.room) = p := ⟨_, rfl⟩
  rw [hxy]
  have HX := Lib.hid (show bestR stepsI r = (x, y) from hxy)
  clear hxy
  rw [HX.out] at hn
  have hd : decide (0 ≤ y) = false := by simp only [decide_eq_false_iff_not]; exact fun h => absurd hn (by simp only; omega)
  rw [hd]
  clear hd hn
  have S := Lib.hid (hS3.rebaseH S.out.bel)
  clear hS3
  go_wp2_with fail
  go_ret3
  exact ⟨rfl, S.out.bel⟩

set_option maxRecDepth 20000 in
set_option maxHeartbeats 1000000 in
theorem knownSteps_some (v : Value) (r : Ros) (is : Bool) (w : World) (hv : RosAt w v r) (h : askE r is = 0) (hn : 0 ≤ (bestR stepsI r).2) :
    Calls Tryz.prog 27 #[v, .bool is, .func (.func 28) #[] #[]] w fun e w' => ∃ c m rv A cs, v = .agg #[rv, .slice A r.strs.length cs] ∧ e = .returned (.tuple #[.pointer (some ⟨c, 0, none⟩), I (bestR stepsI r).1, I 0]) ∧ St w w' w'.heap.size [.any m (MemoP fun k l => bestP stepsI (r.strs.drop k) l), .box c [rv, .slice A r.strs.length cs, .func (.func 28) #[] #[], .map (some m)]] := by
  obtain ⟨rv, sv, rfl, hr, hs⟩ := hv
  obtain ⟨A1, c1, rfl, hr1, hr2, -⟩ := hr.open_
  obtain ⟨A2, c2, rfl, hs1, hs2, -⟩ := hs.open_
  have HR := Lib.hid hr
  have HS := Lib.hid hs
  clear hr hs
  have S := Lib.hid (show St w (w.alloc (.cells #[.slice A1 r.room.length c1, .slice A2 r.strs.length c2] 25)) (w.heap.size + 1) [.box w.heap.size [.slice A1 r.room.length c1, .slice A2 r.strs.length c2]] from (St.init w).alloc [.slice A1 r.room.length c1, .slice A2 r.strs.length c2] 25)
  have hok := valid_iff.1 (askE_zero.1 h).1
  have HE := Lib.hid h
  clear h
  go_enter Tryz.func27, Tryz.ntmps27
  go_wp2_with fail
  refine (ask_any _ r is _ ⟨_, _, rfl, HR.out.below S.out.bel, HS.out.below S.out.bel⟩).mono ?_
  rintro e w1 ⟨rfl, hb⟩
  rw [HE.out]
  have S := Lib.hid (S.out.call hb)
  clear hb
  have q0 := S.out.get 0 0 rfl rfl
  have q1 := S.out.get 0 1 rfl rfl
  go_wp2_with fail
  clear q0 q1
  refine (hire_any _ (.func 28) #[] #[] r (fun k l => bestP stepsI (r.strs.drop k) l) _ ⟨_, _, rfl, HR.out.below S.out.bel, HS.out.below S.out.bel⟩).mono ?_
  rintro e w2 ⟨c, m, rv', sv', he, rfl, hS⟩
  simp only [Value.agg.injEq] at he
  have he := congrArg Array.toList he
  simp only [List.cons.injEq, and_true] at he
  obtain ⟨rfl, rfl⟩ := he
  have hS := hS.perm (List.Perm.swap ..)
  go_wp2_with fail
  refine (leastSteps_any w1 r.strs r.room (.slice A1 r.room.length c1) A2 c2 c m (HS.out.below S.out.bel) hok.sl (fun s hs => (hok.so s hs).1) (HR.out.below S.out.bel) hok.rl (fun x hx => by have := hok.rm x hx; omega) w2 [] hS).mono ?_
  rintro e w3 ⟨rfl, hS3⟩
  clear hS
  obtain ⟨⟨x, y⟩, hxy⟩ : ∃ p, bestP stepsI r.strs (pad r.room) = p := ⟨_, rfl⟩
  rw [hxy]
  have HX := Lib.hid (show bestR stepsI r = (x, y) from hxy)
  clear hxy
  rw [HX.out] at hn
  have hd : decide (0 ≤ y) = true := by simp only [decide_eq_true_eq]; exact hn
  rw [hd]
  clear hd hn
  have S := Lib.hid (hS3.rebaseH S.out.bel)
  clear hS3
  go_wp2_with fail
  go_ret3
  exact ⟨c, m, _, A2, c2, rfl, by rw [HX.out]; rfl, S.out⟩

theorem knownSteps_any (v : Value) (r : Ros) (is : Bool) (w : World) (hv : RosAt w v r) :
    Calls Tryz.prog 27 #[v, .bool is, .func (.func 28) #[] #[]] w fun e w' => ∃ p, e = .returned (.tuple #[p, I (knownR stepsI r is).1, I (knownR stepsI r is).2]) ∧ Below w.heap.size w w' := by
  unfold knownR
  by_cases h : askE r is = 0
  · rw [if_pos h]
    by_cases hn : (bestR stepsI r).2 < 0
    · rw [if_pos hn]
      exact (knownSteps_none v r is w hv h hn).mono fun e w' ⟨h1, h2⟩ => ⟨_, h1, h2⟩
    · rw [if_neg hn]
      exact (knownSteps_some v r is w hv h (by omega)).mono fun e w' ⟨c, m, rv, A, cs, _, h1, h2⟩ => ⟨_, h1, h2.bel⟩
  · rw [if_neg h]
    exact (knownSteps_err v r is w hv h).mono fun e w' ⟨h1, h2⟩ => ⟨_, h1, h2⟩

end Go.Proofs.YtldcehhhndlhdaaGreatDoor.Hr
/- Walks: roster (two ways). -/
namespace Go.Proofs.YtldcehhhndlhdaaGreatDoor.Hr
open Go.RowKit Go.Sort

theorem rosterP_length (w : Str → Int → Int) : ∀ (ss : List Str) (left : List Int), (rosterP w ss left).length = ss.length
  | [], _ => rfl
  | s :: ss, left => by simp [rosterP, rosterP_length w ss]
theorem st_one (k : Int) (left : List Int) : ∀ v ∈ I k :: left.map I, v.oneCell' = true := fun v hv => by
  rcases List.mem_cons.1 hv with rfl | hv
  · rfl
  · exact ints_one _ v hv

set_option maxRecDepth 20000 in
set_option maxHeartbeats 4000000 in
theorem rosterSteps_any (w0 : World) (ss : List Str) (room : List Int) (rv : Value) (A : Option Addr) (cs c m : Nat) (hss : Strs w0 (.slice A ss.length cs) ss) (hsl : ss.length ≤ 6) (hok : ∀ s ∈ ss, StrOk s) (hr : Ints w0 rv room) (hl : room.length ≤ 8) (hrm : ∀ x ∈ room, 0 ≤ x ∧ x ≤ 7)
    (hn : 0 ≤ (bestP stepsI ss (pad room)).2) (w : World) (L : List Item) (hS : St w0 w w.heap.size (.any m (MemoP fun k l => bestP stepsI (ss.drop k) l) :: .box c [rv, .slice A ss.length cs, .func (.func 28) #[] #[], .map (some m)] :: L)) :
    Calls Tryz.prog 29 #[.pointer (some ⟨c, 0, none⟩)] w fun e w' => ∃ v, e = .returned v ∧ St w0 w' w'.heap.size (.own 3 1 v ss.length ((rosterP stepsI ss (pad room)).map I) :: .any m (MemoP fun k l => bestP stepsI (ss.drop k) l) :: .box c [rv, .slice A ss.length cs, .func (.func 28) #[] #[], .map (some m)] :: L) := by
  obtain ⟨i0, hi, hz0, hz1, hz2⟩ := info_parts Tryz.info3
  have h02 : 0 < 1 := by omega
  have h0 := hS.get 1 0 rfl rfl
  have HS := Lib.hid hS

  have hp9 := (pad_ok hl hrm)
  have HN := Lib.hid hn
  have HP := Lib.hid hp9

  clear hS hn hp9
  go_enter Tryz.func29, Tryz.ntmps29
  go_wp2_with fail
  refine (begin_any c rv room _ h0 (hr.below HS.out.bel) hl).mono ?_
  rintro e w1 ⟨rfl, hb⟩
  have S := Lib.hid ((((HS.out.call hb).nil 3 1).alloc [I 0, I 0, I 0, I 0, I 0, I 0, I 0, I 0, I 0] 87))
  clear hb h0
  have HZ := Lib.hid (show (Tryz.prog.info? 87).map (·.size) = some (I ((0 : Nat) : Int) :: (pad room).map I).length by rw [List.length_cons, List.length_map, HP.out.len]; exact run_info_state)
  go_wp2_with (refine wpList_store_St S.out 0 rfl 87 (.tmp 4) (.tmp 7) rfl rfl rfl (I ((0 : Nat) : Int) :: (pad room).map I) rfl HZ.out (by simp [HP.out.len]) (st_one _ _) ?_; intro w2 hS2; have S := Lib.hid hS2; clear hS2)
  clear HZ
  go_frame
  go_loopg [3, 4] ss.length (fun q u p wr => ∃ (k : Nat) (left done : List Int) (b : Nat) (v : Value), k + q = ss.length ∧ v = u ∧ p = .pointer (some ⟨b, 0, none⟩) ∧ Hid (LOk left) ∧ Hid (rosterP stepsI ss (pad room) = done ++ rosterP stepsI (ss.drop k) left) ∧ Hid (0 ≤ (bestP stepsI (ss.drop k) left).2) ∧ Hid (done.length = k) ∧ Hid (St w0 wr wr.heap.size (.box b (I (k : Int) :: left.map I) :: .own 3 1 v done.length (done.map I) :: .any m (MemoP fun k l => bestP stepsI (ss.drop k) l) :: .box c [rv, .slice A ss.length cs, .func (.func 28) #[] #[], .map (some m)] :: L)))
  case atStart => exact ⟨0, pad room, [], w1.heap.size, _, by omega, rfl, rfl, HP, Lib.hid rfl, HN, Lib.hid rfl, S⟩
  case round =>
    clear S HP HN HS
    obtain ⟨k, left, done, b, v, hkq, rfl, rfl, HL, HPA, HB, HD, S⟩ := hrel
    by_cases hlt : k < ss.length
    · have hki : (k : Int) < (ss.length : Int) := by omega
      have hk6 : k ≤ 6 := by omega
      obtain ⟨s, hs⟩ : ∃ s, ss[k] = s := ⟨_, rfl⟩
      have hsd : ss.drop k = s :: ss.drop (k + 1) := by rw [List.drop_eq_getElem_cons hlt, hs]
      have hso : StrOk s := hok s (by rw [← hs]; exact List.getElem_mem hlt)
      obtain ⟨hb1, hb2, hb3, hb4⟩ := best_step (w := stepsI) (s := s) (ss := ss.drop (k + 1)) (left := left) (by rw [← hsd]; exact HB.out)
      have hro : rosterP stepsI (ss.drop k) left = (bestP stepsI (ss.drop k) left).2 :: rosterP stepsI (ss.drop (k + 1)) (dec left (bestP stepsI (ss.drop k) left).2) := by rw [hsd]; rfl
      rw [← hsd] at hb1 hb2 hb3 hb4
      obtain ⟨⟨x, h⟩, hxh⟩ : ∃ p, bestP stepsI (ss.drop k) left = p := ⟨_, rfl⟩
      rw [hxh] at hb1 hb2 hb3 hb4 hro
      simp only at hb1 hb2 hb3 hb4 hro
      have hh0 : 0 ≤ h := by have := hso.frm0; omega
      have hh7 : h ≤ 7 := by have := hso.to1; omega
      have HX := Lib.hid hxh
      have HR := Lib.hid hro
      have H3 := Lib.hid hb3
      have H4 := Lib.hid hb4
      have hdl : done.length ≤ 6 := by have := HD.out; omega
      clear hxh hro hb3 hb4 hb1 hb2 hsd hs hso
      go_wp2_with fail
      refine wp_region_seg [] [0, 1, 2, 3, 4, 5, 6, 7, 8] [] 9 (by kernel_rfl) (by kernel_rfl) ?_
      intro KQ hKQ w3 hb
      have S := Lib.hid (S.out.call hb)
      clear hb
      have q0_0 := cell_regrown (S.out.get 0 0 rfl rfl)
      have q3_1 := cell_regrown (S.out.get 3 1 rfl rfl)
      refine seg_last ?_
      simp only [opsAt, List.filterMap_cons, List.filterMap_nil, List.getElem?_toArray, List.getElem?_cons_succ, List.getElem?_cons_zero]
      repeat (first | go_big_quiet_step (fail) | quiet_step (fail))
      refine wpQuiet_nil ?_
      clear q0_0 q3_1
      have HZ := Lib.hid (show (Tryz.prog.info? 87).map (·.size) = some (I (k : Int) :: left.map I).length by rw [List.length_cons, List.length_map, HL.out.len]; exact run_info_state)
      go_wp2_with (refine wpList_load_St S.out 0 rfl 87 (.tmp 4) rfl rfl rfl _ Tryz.underlying87 rfl HZ.out ?_)
      refine (bestSteps_any w0 ss rv A cs c m hss hsl hok (ss.length - k) k left _ _ (by omega) HL.out (S.out.rot2 [.box b (I (k : Int) :: left.map I), .own 3 1 v done.length (done.map I)])).mono ?_
      rintro e w4 ⟨rfl, hS4⟩
      rw [HX.out, show ansV (x, h) = .agg #[I x, I h] from rfl]
      have S := Lib.hid ((hS4.unrot2 [.box b (I (k : Int) :: left.map I), .own 3 1 v done.length (done.map I)]).alloc [I h] 3)
      clear hS4
      have hfd : ∀ w, (Instr.field 93 (.agg #[I x, I h]) 1).run Tryz.prog w = .ok (I h) w := fun _ => by kernel_rfl
      have h63 : done.length + 1 ≤ maxLen := by simp only [maxLen]; omega
      have hby : (done.length + 1) * 8 ≤ 140737488355328 := by omega
      go_wp2_with (first | (at_builtin; refine wpList_append_St S.out 2 rfl _ _ 22 rfl 3 i0 (.int .i64 0) 1 8 Tryz.underlying22 hi hz0 hz1 hz2 rfl h02 rfl rfl _ 1 [I h] rfl (reads_box1 (S.out.get 0 0 rfl rfl)) (ints_one [h]) h63 hby ?_; intro v' w5 hS5; have S := Lib.hid hS5.tail; clear hS5) | (refine wpList_load_St S.out 0 rfl 87 (.tmp 4) rfl rfl rfl _ Tryz.underlying87 rfl HZ.out ?_))
      refine (with_any (k : Int) h left _ ⟨HL.out.len, by omega, by omega, fun x hx => by have := HL.out.lo x hx; omega⟩ hh0 hh7).mono ?_
      rintro e w6 ⟨rfl, hb⟩
      have S := Lib.hid (S.out.call hb)
      clear hb HZ
      have HLD := Lib.hid (HL.out.dec H3.out)
      have HZ := Lib.hid (show (Tryz.prog.info? 87).map (·.size) = some (I ((k : Int) + 1) :: (dec left h).map I).length by rw [List.length_cons, List.length_map, HLD.out.len]; exact run_info_state)
      have HE := Lib.hid (show (I (k : Int) :: left.map I).length = (I ((k : Int) + 1) :: (dec left h).map I).length by simp [HL.out.len, HLD.out.len])
      have HE9 := Lib.hid (show ([I 0, I 0, I 0, I 0, I 0, I 0, I 0, I 0, I 0] : List Value).length = (I ((k : Int) + 1) :: (dec left h).map I).length by simp [HLD.out.len])
      go_wp2_with (first | (refine wpList_load_St S.out 0 rfl 87 (.tmp 4) rfl rfl rfl _ Tryz.underlying87 rfl HZ.out ?_) | (refine wpList_store_St S.out 0 rfl 87 (.tmp 4) (.tmp 27) rfl rfl rfl (I ((k : Int) + 1) :: (dec left h).map I) rfl HZ.out HE.out (st_one _ _) ?_; intro w7 hS7; have S := Lib.hid hS7; clear hS7) | (refine wpList_store_St (S.out.alloc [I 0, I 0, I 0, I 0, I 0, I 0, I 0, I 0, I 0] 87) 0 rfl 87 (.tmp 4) (.tmp 28) rfl rfl rfl (I ((k : Int) + 1) :: (dec left h).map I) rfl HZ.out HE9.out (st_one _ _) ?_; intro w8 hS8; have S := Lib.hid (hS8.drop 1); clear hS8))
      go_frame
      go_roundg (gk - 1)
      case measure => omega
      case rel => exact ⟨k + 1, dec left h, done ++ [h], _, _, by omega, rfl, rfl, HLD, Lib.hid (by rw [HPA.out, HR.out]; simp), H4, Lib.hid (by simp [HD.out]), Lib.hid (by
        have q := S.out
        rw [show ((k : Int) + 1) = ((k + 1 : Nat) : Int) by simp] at q
        simpa using q)⟩
    · have hke : ¬ ((k : Int) < (ss.length : Int)) := by omega
      go_wp2_with fail
      refine wp_region_seg [] [0, 1, 2, 3, 4, 5, 6, 7, 8] [] 9 (by kernel_rfl) (by kernel_rfl) ?_
      intro KQ hKQ w3 hb
      have S := Lib.hid (S.out.call hb)
      clear hb
      have q0_0 := cell_regrown (S.out.get 0 0 rfl rfl)
      have q3_1 := cell_regrown (S.out.get 3 1 rfl rfl)
      refine seg_last ?_
      simp only [opsAt, List.filterMap_cons, List.filterMap_nil, List.getElem?_toArray, List.getElem?_cons_succ, List.getElem?_cons_zero]
      repeat (first | go_big_quiet_step (fail) | quiet_step (fail))
      refine wpQuiet_nil ?_
      clear q0_0 q3_1
      go_wp2_with fail
      go_ret
      have hd : rosterP stepsI ss (pad room) = done := by rw [HPA.out, List.drop_eq_nil_of_le (by omega)]; simp [rosterP]
      have hdl : done.length = ss.length := by have := HD.out; omega
      have q := S.out.tail
      rw [hdl] at q
      exact ⟨v, rfl, by rw [hd]; exact q⟩

end Go.Proofs.YtldcehhhndlhdaaGreatDoor.Hr
/- Walks: upTo, far, Far, Roster, Fair. -/
namespace Go.Proofs.YtldcehhhndlhdaaGreatDoor.Hr
open Go.RowKit Go.Sort

set_option maxRecDepth 20000 in
set_option maxHeartbeats 2000000 in
theorem pRoster_any (v : Value) (r : Ros) (w : World) (hv : RosAt w v r) :
    Calls Tryz.prog 10 #[v] w fun e w' => ∃ v', e = .returned (.tuple #[v', I (rosterR r).2]) ∧ w'.ownsRow w.heap.size 3 1 v' (rosterR r).1.length ((rosterR r).1.map I) ∧ Below w.heap.size w w' := by
  obtain ⟨rv, sv, rfl, hr, hs⟩ := hv
  obtain ⟨A1, c1, rfl, hr1, hr2, -⟩ := hr.open_
  obtain ⟨A2, c2, rfl, hs1, hs2, -⟩ := hs.open_
  have HR := Lib.hid hr
  have HS := Lib.hid hs
  clear hr hs
  have S := Lib.hid (show St w (w.alloc (.cells #[.slice A1 r.room.length c1, .slice A2 r.strs.length c2] 25)) (w.heap.size + 1) [.box w.heap.size [.slice A1 r.room.length c1, .slice A2 r.strs.length c2]] from (St.init w).alloc [.slice A1 r.room.length c1, .slice A2 r.strs.length c2] 25)
  have q0_0 := S.out.get 0 0 rfl rfl
  have q0_1 := S.out.get 0 1 rfl rfl
  by_cases hask : askE r true = 0
  · by_cases hn : (bestR stepsI r).2 < 0
    · have HE := Lib.hid (show rosterR r = ([], 3) by unfold rosterR leastR knownR; rw [if_pos hask, if_pos hn]; rfl)
      go_enter Tryz.func10, Tryz.ntmps10
      go_wp2_with fail
      clear q0_0 q0_1
      refine (knownSteps_none _ r true _ ⟨_, _, rfl, HR.out.below S.out.bel, HS.out.below S.out.bel⟩ hask hn).mono ?_
      rintro e w1 ⟨rfl, hb⟩
      have S := Lib.hid (S.out.call hb)
      clear hb hask hn
      go_wp2_with fail
      go_ret2
      exact ⟨.slice none 0 0, by rw [HE.out]; rfl, by rw [HE.out]; exact World.ownsRow_nil _ _ _ _, S.out.bel⟩
    · have hn' : 0 ≤ (bestR stepsI r).2 := by omega
      have HE := Lib.hid (show rosterR r = (rosterP stepsI r.strs (pad r.room), 0) by unfold rosterR leastR knownR; rw [if_pos hask, if_neg hn]; rfl)
      have hok := valid_iff.1 (askE_zero.1 hask).1
      clear hn
      go_enter Tryz.func10, Tryz.ntmps10
      go_wp2_with fail
      clear q0_0 q0_1
      refine (knownSteps_some _ r true _ ⟨_, _, rfl, HR.out.below S.out.bel, HS.out.below S.out.bel⟩ hask hn').mono ?_
      rintro e w1 ⟨c, m, rv', A, cs, he, rfl, hS⟩
      simp only [Value.agg.injEq] at he
      have he := congrArg Array.toList he
      simp only [List.cons.injEq, and_true] at he
      obtain ⟨rfl, he2⟩ := he
      injection he2 with e1 e2 e3
      subst e1 e3
      clear e2 hask
      have HS1 := Lib.hid hS
      have HN := Lib.hid hn'
      have HOK := Lib.hid hok
      clear hS hn' hok
      obtain ⟨wb, hwb⟩ : ∃ wb, (w.alloc (.cells #[.slice A1 r.room.length c1, .slice A2 r.strs.length c2] 25)) = wb := ⟨_, rfl⟩
      rw [hwb] at HS1 S
      have HWB := Lib.hid hwb
      clear hwb
      go_wp2_with fail
      refine (rosterSteps_any wb r.strs r.room _ A2 c2 c m (HS.out.below S.out.bel) HOK.out.sl (fun s hs => (HOK.out.so s hs).1) (HR.out.below S.out.bel) HOK.out.rl (fun x hx => by have := HOK.out.rm x hx; omega) HN.out w1 [] HS1.out).mono ?_
      rintro e w2 ⟨v', rfl, hS2⟩
      have S2 := Lib.hid (hS2.rebaseH S.out.bel)
      clear hS2
      go_wp2_with fail
      go_ret2
      exact ⟨v', by rw [HE.out]; rfl, by rw [HE.out]; simp only [rosterP_length]; exact S2.out.own 0 rfl, S2.out.bel⟩
  · have HE := Lib.hid (show rosterR r = ([], askE r true) by unfold rosterR leastR knownR; rw [if_neg hask, if_neg hask])
    have hq : (askE r true != 0) = true := by simpa using hask
    go_enter Tryz.func10, Tryz.ntmps10
    go_wp2_with fail
    clear q0_0 q0_1
    refine (knownSteps_err _ r true _ ⟨_, _, rfl, HR.out.below S.out.bel, HS.out.below S.out.bel⟩ hask).mono ?_
    rintro e w1 ⟨rfl, hb⟩
    have S := Lib.hid (S.out.call hb)
    clear hb hask
    go_wp2_with fail
    go_ret2
    exact ⟨.slice none 0 0, by rw [HE.out]; rfl, by rw [HE.out]; exact World.ownsRow_nil _ _ _ _, S.out.bel⟩

theorem farN_ok {r : Ros} (h : ROk r) (hl : 0 ≤ (bestR stepsI r).2) : 0 ≤ (bestP (upToI (farN r : Int)) r.strs (pad r.room)).2 := by
  obtain ⟨n, hn, hb⟩ := far_ends h hl
  unfold farN
  cases hf : (List.range 9).find? (fun n : Nat => decide (0 ≤ (bestR (upToI (n : Int)) r).2)) with
  | none =>
    have := List.find?_eq_none.1 hf n (List.mem_range.2 hn)
    simp at this; omega
  | some k =>
    show 0 ≤ (bestR (upToI (k : Int)) r).2
    have h2 := List.find?_some hf
    simp only [decide_eq_true_eq] at h2
    exact h2

end Go.Proofs.YtldcehhhndlhdaaGreatDoor.Hr
/- Walks: slices.Clone, good, cost, given, Good, Cost. -/
namespace Go.Proofs.YtldcehhhndlhdaaGreatDoor.Hr
open Go.RowKit Go.Sort

theorem Tryz.info53 : (Tryz.prog.info? 53).map (fun i => (i.zero, i.size, i.bytes)) = some (some (.agg #[.int .i64 0, .int .i64 0, .int .i64 0, .int .i64 0]), 4, 32) := by kernel_rfl
theorem strs_one (ss : List Str) : ∀ u ∈ strCells ss, u.oneCell' = true := fun u hu => by
  obtain ⟨p, _, hu⟩ := List.mem_flatMap.1 hu
  simp [Str.cells] at hu
  rcases hu with rfl | rfl | rfl | rfl <;> rfl

set_option maxRecDepth 20000 in
set_option maxHeartbeats 1000000 in
theorem cloneI_any (v : Value) (ps : List Int) (w : World) (hv : Ints w v ps) (hlen : ps.length ≤ 1000) :
    Calls Tryz.prog 43 #[v] w fun e w' => ∃ v', e = .returned v' ∧ w'.ownsRow w.heap.size 3 1 v' ps.length (ps.map I) ∧ Below w.heap.size w w' := by
  obtain ⟨i0, hi, hz0, hz1, hz2⟩ := info_parts Tryz.info3
  have h02 : 0 < 1 := by omega
  have h63 : 0 + ps.length ≤ maxLen := by simp only [maxLen]; omega
  have hby : (0 + ps.length) * 8 ≤ 140737488355328 := by omega
  have HV := Lib.hid (show Reads w 1 v ps.length (ps.map I) from hv)
  have hm0 : (0 : Nat) ≤ maxLen := by omega
  have hown := World.ownsRow_made (e := 3) (size := 1) w #[] 0 (Nat.le_refl w.heap.size) hm0 rfl
  have hb0 : Below w.heap.size w (w.alloc (.cells #[] 3)) := (Below.refl _ _).alloc (Nat.le_refl _) _
  have hs0 := hb0.size
  obtain ⟨_, A, c, rfl, hmc, hc, hcell⟩ := hv
  rcases A with _ | ad
  · have hp : ps = [] := by
      rcases Nat.eq_zero_or_pos ps.length with h0 | h0
      · exact List.eq_nil_of_length_eq_zero h0
      · obtain ⟨b, o, h, _⟩ := hcell h0
        cases h
    subst hp
    clear hcell
    have hq := fun w => run_eql_slice_nil (P := Tryz.prog) w 22 3 none 0 c Tryz.underlying22
    go_enter Tryz.func43, Tryz.ntmps43
    go_wp2_with fail
    go_ret
    exact ⟨_, rfl, World.ownsRow_nil _ _ _ _, Below.refl _ _⟩
  · clear hcell
    have hq := fun w => run_eql_slice_nil (P := Tryz.prog) w 22 3 (some ad) ps.length c Tryz.underlying22
    go_enter Tryz.func43, Tryz.ntmps43
    go_wp2_with (at_builtin; refine wpList_append_src _ rfl _ _ 22 rfl w.heap.size 3 i0 (.int .i64 0) 1 8 Tryz.underlying22 hi hz0 hz1 hz2 rfl h02 _ _ _ rfl hown _ _ _ rfl (Reads.below HV.out hb0) (ints_one _) h63 hby hs0 ?_; intro v' w4 hown' hgrow _)
    go_ret
    rw [Nat.zero_add, List.nil_append] at hown'
    exact ⟨_, rfl, hown', hb0.grown hgrow hs0 (fun q hq => (hown.lt q hq).1)⟩

/-- How much of the room is left behind the first k streets. -/
def leftTo (left : List Int) (l : List Int) : Nat → List Int
  | 0 => left
  | k + 1 => dec (leftTo left l k) (l.getD k 0)
theorem leftTo_len (left l : List Int) : ∀ k, (leftTo left l k).length = left.length
  | 0 => rfl
  | k + 1 => by rw [leftTo, dec_length, leftTo_len left l k]
theorem leftTo_succ (left : List Int) (h : Int) (l : List Int) : ∀ k, leftTo left (h :: l) (k + 1) = leftTo (dec left h) l k
  | 0 => rfl
  | k + 1 => by rw [leftTo, leftTo_succ left h l k]; rfl
/-- 'good' goes on: the first k streets have their hours. -/
theorem goodL_drop : ∀ (ss : List Str) (left l : List Int) (k : Nat), k < l.length → k < ss.length → goodL (ss.drop k) (leftTo left l k) (l.drop k) =
    (inR (l.getD k 0) (ss.getD k default).frm (ss.getD k default).to && at_ (leftTo left l k) (l.getD k 0) != 0 && goodL (ss.drop (k + 1)) (leftTo left l (k + 1)) (l.drop (k + 1))) := by
  intro ss left l k h1 h2
  rw [List.drop_eq_getElem_cons h1, List.drop_eq_getElem_cons h2]
  simp [goodL, leftTo, List.getD_eq_getElem?_getD, List.getElem?_eq_getElem h1, List.getElem?_eq_getElem h2]
theorem at_nat (l : List Int) (h : Nat) : at_ l (h : Int) = l.getD h 0 := rfl

end Go.Proofs.YtldcehhhndlhdaaGreatDoor.Hr
/- Walks: the reference's Copy and Roomier; street, Example. -/
namespace Go.Proofs.YtldcehhhndlhdaaGreatDoor.Hr
open Go.RowKit Go.Sort

/-- A roster in memory that the call has made. -/
def OwnRos (w : World) (base : Nat) (v : Value) (r : Ros) : Prop := ∃ rv sv, v = .agg #[rv, sv] ∧ w.ownsRow base 3 1 rv r.room.length (r.room.map I) ∧ w.ownsRow base 53 4 sv r.strs.length (strCells r.strs)
theorem OwnRos.ros {w : World} {base : Nat} {v : Value} {r : Ros} (h : OwnRos w base v r) : RosAt w v r := by
  obtain ⟨rv, sv, rfl, h1, h2⟩ := h
  exact ⟨rv, sv, rfl, Ints.of_own h1, Reads.of_own h2⟩
theorem OwnRos.below {w w' : World} {base : Nat} {v : Value} {r : Ros} (h : OwnRos w base v r) (hb : Below w.heap.size w w') : OwnRos w' base v r := by
  obtain ⟨rv, sv, rfl, h1, h2⟩ := h
  exact ⟨rv, sv, rfl, own_below h1 hb, own_below h2 hb⟩
theorem own_ne {W : World} {B B' e e' s s' n n' : Nat} {v v' : Value} {xs xs' : List Value} (h : W.ownsRow B e s v n xs) (h' : W.ownsRow B' e' s' v' n' xs') (hne : e ≠ e') {g : Nat} (hg : v.ownBlock = some g) : v'.ownBlock ≠ some g := by
  intro hg'
  rcases h.2 with ⟨rfl, _⟩ | ⟨g1, cap, cur, rfl, _, hh, _⟩
  · cases hg
  · rcases h'.2 with ⟨rfl, _⟩ | ⟨g2, cap', cur', rfl, _, hh', _⟩
    · cases hg'
    · have e1 : g1 = g := by simpa [Value.ownBlock] using hg
      have e2 : g2 = g := by simpa [Value.ownBlock] using hg'
      rw [e1] at hh
      rw [e2] at hh'
      rw [hh] at hh'
      injection hh' with hh'
      injection hh' with _ ht
      exact hne ht
/-- Two rows in new memory, of two kinds. -/
theorem _root_.Go.Proofs.YtldcehhhndlhdaaGreatDoor.St.take2H {w0 w w' : World} {n : Nat} {L : List Item} (h : St w0 w n L) (hb : Below w.heap.size w w') {e e' s s' m m' : Nat} {v v' : Value} {xs xs' : List Value} (ho : w'.ownsRow w.heap.size e s v m xs) (ho' : w'.ownsRow w.heap.size e' s' v' m' xs') (hne : e ≠ e') : St w0 w' w'.heap.size (.own e s v m xs :: .own e' s' v' m' xs' :: L) := by
  have h1 := h.take hb ho'
  refine ⟨rfl, h1.bel, fun x hx => ?_, ?_⟩
  · rcases List.mem_cons.1 hx with hx | hx
    · rw [hx]; exact own_base' ho h.bel.size
    · exact h1.ok x hx
  · rw [List.filterMap_cons]
    split
    · exact h1.apart
    · rename_i b hb'
      refine List.nodup_cons.2 ⟨fun hm => ?_, h1.apart⟩
      rw [List.filterMap_cons] at hm
      split at hm
      · have h3 := (ho.lt b hb').1
        have h4 := (h.lt_of hm).2
        have := h.size
        omega
      · rename_i c hc
        rcases List.mem_cons.1 hm with rfl | hm
        · exact own_ne ho ho' hne hb' hc
        · have h3 := (ho.lt b hb').1
          have h4 := (h.lt_of hm).2
          have := h.size
          omega

set_option maxRecDepth 20000 in
set_option maxHeartbeats 4000000 in
theorem copy_any (v : Value) (r : Ros) (w : World) (hv : RosAt w v r) (hlen : r.room.length ≤ 1000) (hlen' : r.strs.length ≤ 1000) :
    Calls Tryz.prog 45 #[v] w fun e w' => ∃ v', e = .returned v' ∧ OwnRos w' w.heap.size v' r ∧ Below w.heap.size w w' := by
  obtain ⟨rv, sv, rfl, hr, hs⟩ := hv
  obtain ⟨A1, c1, rfl, hr1, hr2, -⟩ := hr.open_
  obtain ⟨A2, c2, rfl, hs1, hs2, -⟩ := hs.open_
  have HR := Lib.hid hr
  have HS := Lib.hid hs
  clear hr hs
  have S := Lib.hid (show St w (w.alloc (.cells #[.slice A1 r.room.length c1, .slice A2 r.strs.length c2] 25)) (w.heap.size + 1) [.box w.heap.size [.slice A1 r.room.length c1, .slice A2 r.strs.length c2]] from (St.init w).alloc [.slice A1 r.room.length c1, .slice A2 r.strs.length c2] 25)
  obtain ⟨i0, hi, hz0, hz1, hz2⟩ := info_parts Tryz.info3
  obtain ⟨j0, ki, kz0, kz1, kz2⟩ := info_parts Tryz.info53
  have S := Lib.hid (S.out.alloc [.slice none 0 0, .slice none 0 0] 25)
  go_enter Tryz.func45, Tryz.ntmps45
  go_wp2_with fail
  refine wp_region_treeB (.node [1, 2, 5, 6] [0, 4] (fun l => if l = 0 then .node [] [3, 4] (fun l => if l = 3 then .node [] [4] (fun _ => .node [] [7] (fun _ => .last [8] [9])) else .node [] [3] (fun _ => .node [] [7] (fun _ => .last [8] [9]))) else .node [] [0] (fun _ => .node [] [3] (fun _ => .node [] [7] (fun _ => .last [8] [9]))))) 9 (by kernel_rfl) (by kernel_rfl) ?_
  intro KQ hKQ w1 hb
  have S := Lib.hid (S.out.call hb)
  clear hb
  have k0 := cell_regrown (S.out.get 1 0 rfl rfl)
  have k1 := cell_regrown (S.out.get 1 1 rfl rfl)
  have HB := Lib.hid (Below.refl w1.heap.size w1)
  refine treeB_node ?_
  simp only [opsAt, List.filterMap_cons, List.filterMap_nil, List.getElem?_toArray, List.getElem?_cons_succ, List.getElem?_cons_zero]
  repeat (first | go_big_quiet_step (fail) | quiet_step (fail))
  refine wpQuiet_nil ?_
  refine all_two ?_ ?_
  · have le0 := Lib.hid HB.out.size
    intro K hK
    refine loud_op rfl rfl ?_
    go_simp
    have hb := (Below.refl w1.heap.size w1).alloc (Nat.le_refl _) (.cells #[] 3)
    have hg := heap_alloc_new w1 (.cells #[] 3)
    obtain ⟨w2, hwd⟩ : ∃ x, w1.alloc (.cells #[] 3) = x := ⟨_, rfl⟩
    rw [hwd] at hb hg ⊢
    clear hwd
    have HB := Lib.hid (bto HB.out hb)
    have G0 := Lib.hid hg
    refine hK _ _ HB.out ?_
    clear hK K hb hg
    refine treeB_node ?_
    simp only [opsAt, List.filterMap_nil]
    refine wpQuiet_nil ?_
    refine all_two ?_ ?_
    · intro K hK
      refine loud_op rfl rfl ?_
      have hrd : Reads w2 1 _ r.room.length (r.room.map I) := (HR.out.below (bto S.out.bel HB.out))
      refine wp_append_fresh _ (.tmp 3) (.tmp 5) 22 rfl w1.heap.size 3 i0 (.int .i64 0) 1 8 Tryz.underlying22 hi hz0 hz1 hz2 rfl (by omega) w1.heap.size rfl G0.out le0.out _ r.room.length (r.room.map I) rfl hrd (ints_one r.room) (by simp only [maxLen]; omega) (by omega) HB.out.size ?_
      intro v1 w3 hown hb
      have HB := Lib.hid (bto HB.out hb)
      have O1 := Lib.hid hown
      refine hK _ _ HB.out ?_
      clear hK K hb hown hrd
      refine treeB_node ?_
      simp only [opsAt, List.filterMap_nil]
      refine wpQuiet_nil ?_
      refine all_one ?_
      have le4 := Lib.hid HB.out.size
      intro K hK
      refine loud_op rfl rfl ?_
      go_simp
      have hb := (Below.refl w3.heap.size w3).alloc (Nat.le_refl _) (.cells #[] 53)
      have hg := heap_alloc_new w3 (.cells #[] 53)
      obtain ⟨w4, hwd⟩ : ∃ x, w3.alloc (.cells #[] 53) = x := ⟨_, rfl⟩
      rw [hwd] at hb hg ⊢
      clear hwd
      have O1 := Lib.hid (own_below O1.out hb)
      have HB := Lib.hid (bto HB.out hb)
      have G4 := Lib.hid hg
      refine hK _ _ HB.out ?_
      clear hK K hb hg
      refine treeB_node ?_
      simp only [opsAt, List.filterMap_nil]
      refine wpQuiet_nil ?_
      refine all_one ?_
      intro K hK
      refine loud_op rfl rfl ?_
      have hrd : Reads w4 4 _ r.strs.length (strCells r.strs) := (HS.out.below (bto S.out.bel HB.out))
      refine wp_append_fresh _ (.tmp 7) (.tmp 9) 23 rfl w1.heap.size 53 j0 (.agg #[.int .i64 0, .int .i64 0, .int .i64 0, .int .i64 0]) 4 32 Tryz.underlying23 ki kz0 kz1 kz2 rfl (by omega) w3.heap.size rfl G4.out le4.out _ r.strs.length (strCells r.strs) rfl hrd (strs_one r.strs) (by simp only [maxLen]; omega) (by omega) HB.out.size ?_
      intro v2 w5 hown hb
      have O1 := Lib.hid (own_below O1.out hb)
      have HB := Lib.hid (bto HB.out hb)
      have O2 := Lib.hid hown
      refine hK _ _ HB.out ?_
      clear hK K hb hown hrd
      obtain ⟨Av1, cv1, rfl⟩ := own_shape O1.out
      obtain ⟨Av2, cv2, rfl⟩ := own_shape O2.out
      refine treeB_last ?_
      simp only [opsAt, List.filterMap_cons, List.filterMap_nil, List.getElem?_toArray, List.getElem?_cons_succ, List.getElem?_cons_zero]
      repeat (first | go_big_quiet_step (fail) | quiet_step (fail))
      refine wpQuiet_nil ?_
      have S := Lib.hid (S.out.take2H HB.out O1.out O2.out (by decide))
      have S2 := (S.out.set 2 0 (.slice Av1 r.room.length cv1) rfl).set 2 1 (.slice Av2 r.strs.length cv2) rfl
      have u0 := S.out.get 2 0 rfl rfl
      have u1 := S.out.get 2 1 rfl rfl
      have u2 := S.out.free 2 0 rfl
      have u3 := S.out.free 2 1 rfl
      have r0 := S2.get 2 0 rfl rfl
      have r1 := S2.get 2 1 rfl rfl
      clear k0 k1
      go_wp2_with fail
      refine bodyPost_ret (v := .agg #[.slice Av1 r.room.length cv1, .slice Av2 r.strs.length cv2]) (by simp [results, Tryz.results45, go_sem, r0, r1]) rfl ⟨_, rfl, ⟨_, _, rfl, S2.own 0 rfl, S2.own 1 rfl⟩, S2.bel⟩
    · have le4 := Lib.hid HB.out.size
      intro K hK
      refine loud_op rfl rfl ?_
      go_simp
      have hb := (Below.refl w2.heap.size w2).alloc (Nat.le_refl _) (.cells #[] 53)
      have hg := heap_alloc_new w2 (.cells #[] 53)
      have ho := (heap_alloc_old w2 (.cells #[] 53) (r := w1.heap.size) (lt_of_block G0.out)).trans G0.out
      obtain ⟨w3, hwd⟩ : ∃ x, w2.alloc (.cells #[] 53) = x := ⟨_, rfl⟩
      rw [hwd] at hb hg ho ⊢
      clear hwd
      have HB := Lib.hid (bto HB.out hb)
      have G4 := Lib.hid hg
      have G0 := Lib.hid ho
      clear ho
      refine hK _ _ HB.out ?_
      clear hK K hb hg
      refine treeB_node ?_
      simp only [opsAt, List.filterMap_nil]
      refine wpQuiet_nil ?_
      refine all_one ?_
      intro K hK
      refine loud_op rfl rfl ?_
      have hrd : Reads w3 1 _ r.room.length (r.room.map I) := (HR.out.below (bto S.out.bel HB.out))
      refine wp_append_fresh _ (.tmp 3) (.tmp 5) 22 rfl w1.heap.size 3 i0 (.int .i64 0) 1 8 Tryz.underlying22 hi hz0 hz1 hz2 rfl (by omega) w1.heap.size rfl G0.out le0.out _ r.room.length (r.room.map I) rfl hrd (ints_one r.room) (by simp only [maxLen]; omega) (by omega) HB.out.size ?_
      intro v1 w4 hown hb
      have G4 := Lib.hid ((hb.block _ (lt_of_block G4.out)).trans G4.out)
      have HB := Lib.hid (bto HB.out hb)
      have O1 := Lib.hid hown
      refine hK _ _ HB.out ?_
      clear hK K hb hown hrd
      refine treeB_node ?_
      simp only [opsAt, List.filterMap_nil]
      refine wpQuiet_nil ?_
      refine all_one ?_
      intro K hK
      refine loud_op rfl rfl ?_
      have hrd : Reads w4 4 _ r.strs.length (strCells r.strs) := (HS.out.below (bto S.out.bel HB.out))
      refine wp_append_fresh _ (.tmp 7) (.tmp 9) 23 rfl w1.heap.size 53 j0 (.agg #[.int .i64 0, .int .i64 0, .int .i64 0, .int .i64 0]) 4 32 Tryz.underlying23 ki kz0 kz1 kz2 rfl (by omega) w2.heap.size rfl G4.out le4.out _ r.strs.length (strCells r.strs) rfl hrd (strs_one r.strs) (by simp only [maxLen]; omega) (by omega) HB.out.size ?_
      intro v2 w5 hown hb
      have O1 := Lib.hid (own_below O1.out hb)
      have HB := Lib.hid (bto HB.out hb)
      have O2 := Lib.hid hown
      refine hK _ _ HB.out ?_
      clear hK K hb hown hrd
      obtain ⟨Av1, cv1, rfl⟩ := own_shape O1.out
      obtain ⟨Av2, cv2, rfl⟩ := own_shape O2.out
      refine treeB_last ?_
      simp only [opsAt, List.filterMap_cons, List.filterMap_nil, List.getElem?_toArray, List.getElem?_cons_succ, List.getElem?_cons_zero]
      repeat (first | go_big_quiet_step (fail) | quiet_step (fail))
      refine wpQuiet_nil ?_
      have S := Lib.hid (S.out.take2H HB.out O1.out O2.out (by decide))
      have S2 := (S.out.set 2 0 (.slice Av1 r.room.length cv1) rfl).set 2 1 (.slice Av2 r.strs.length cv2) rfl
      have u0 := S.out.get 2 0 rfl rfl
      have u1 := S.out.get 2 1 rfl rfl
      have u2 := S.out.free 2 0 rfl
      have u3 := S.out.free 2 1 rfl
      have r0 := S2.get 2 0 rfl rfl
      have r1 := S2.get 2 1 rfl rfl
      clear k0 k1
      go_wp2_with fail
      refine bodyPost_ret (v := .agg #[.slice Av1 r.room.length cv1, .slice Av2 r.strs.length cv2]) (by simp [results, Tryz.results45, go_sem, r0, r1]) rfl ⟨_, rfl, ⟨_, _, rfl, S2.own 0 rfl, S2.own 1 rfl⟩, S2.bel⟩
  · have le4 := Lib.hid HB.out.size
    intro K hK
    refine loud_op rfl rfl ?_
    go_simp
    have hb := (Below.refl w1.heap.size w1).alloc (Nat.le_refl _) (.cells #[] 53)
    have hg := heap_alloc_new w1 (.cells #[] 53)
    obtain ⟨w2, hwd⟩ : ∃ x, w1.alloc (.cells #[] 53) = x := ⟨_, rfl⟩
    rw [hwd] at hb hg ⊢
    clear hwd
    have HB := Lib.hid (bto HB.out hb)
    have G4 := Lib.hid hg
    refine hK _ _ HB.out ?_
    clear hK K hb hg
    refine treeB_node ?_
    simp only [opsAt, List.filterMap_nil]
    refine wpQuiet_nil ?_
    refine all_one ?_
    have le0 := Lib.hid HB.out.size
    intro K hK
    refine loud_op rfl rfl ?_
    go_simp
    have hb := (Below.refl w2.heap.size w2).alloc (Nat.le_refl _) (.cells #[] 3)
    have hg := heap_alloc_new w2 (.cells #[] 3)
    have ho := (heap_alloc_old w2 (.cells #[] 3) (r := w1.heap.size) (lt_of_block G4.out)).trans G4.out
    obtain ⟨w3, hwd⟩ : ∃ x, w2.alloc (.cells #[] 3) = x := ⟨_, rfl⟩
    rw [hwd] at hb hg ho ⊢
    clear hwd
    have HB := Lib.hid (bto HB.out hb)
    have G0 := Lib.hid hg
    have G4 := Lib.hid ho
    clear ho
    refine hK _ _ HB.out ?_
    clear hK K hb hg
    refine treeB_node ?_
    simp only [opsAt, List.filterMap_nil]
    refine wpQuiet_nil ?_
    refine all_one ?_
    intro K hK
    refine loud_op rfl rfl ?_
    have hrd : Reads w3 1 _ r.room.length (r.room.map I) := (HR.out.below (bto S.out.bel HB.out))
    refine wp_append_fresh _ (.tmp 3) (.tmp 5) 22 rfl w1.heap.size 3 i0 (.int .i64 0) 1 8 Tryz.underlying22 hi hz0 hz1 hz2 rfl (by omega) w2.heap.size rfl G0.out le0.out _ r.room.length (r.room.map I) rfl hrd (ints_one r.room) (by simp only [maxLen]; omega) (by omega) HB.out.size ?_
    intro v1 w4 hown hb
    have G4 := Lib.hid ((hb.block _ (lt_of_block G4.out)).trans G4.out)
    have HB := Lib.hid (bto HB.out hb)
    have O1 := Lib.hid hown
    refine hK _ _ HB.out ?_
    clear hK K hb hown hrd
    refine treeB_node ?_
    simp only [opsAt, List.filterMap_nil]
    refine wpQuiet_nil ?_
    refine all_one ?_
    intro K hK
    refine loud_op rfl rfl ?_
    have hrd : Reads w4 4 _ r.strs.length (strCells r.strs) := (HS.out.below (bto S.out.bel HB.out))
    refine wp_append_fresh _ (.tmp 7) (.tmp 9) 23 rfl w1.heap.size 53 j0 (.agg #[.int .i64 0, .int .i64 0, .int .i64 0, .int .i64 0]) 4 32 Tryz.underlying23 ki kz0 kz1 kz2 rfl (by omega) w1.heap.size rfl G4.out le4.out _ r.strs.length (strCells r.strs) rfl hrd (strs_one r.strs) (by simp only [maxLen]; omega) (by omega) HB.out.size ?_
    intro v2 w5 hown hb
    have O1 := Lib.hid (own_below O1.out hb)
    have HB := Lib.hid (bto HB.out hb)
    have O2 := Lib.hid hown
    refine hK _ _ HB.out ?_
    clear hK K hb hown hrd
    obtain ⟨Av1, cv1, rfl⟩ := own_shape O1.out
    obtain ⟨Av2, cv2, rfl⟩ := own_shape O2.out
    refine treeB_last ?_
    simp only [opsAt, List.filterMap_cons, List.filterMap_nil, List.getElem?_toArray, List.getElem?_cons_succ, List.getElem?_cons_zero]
    repeat (first | go_big_quiet_step (fail) | quiet_step (fail))
    refine wpQuiet_nil ?_
    have S := Lib.hid (S.out.take2H HB.out O1.out O2.out (by decide))
    have S2 := (S.out.set 2 0 (.slice Av1 r.room.length cv1) rfl).set 2 1 (.slice Av2 r.strs.length cv2) rfl
    have u0 := S.out.get 2 0 rfl rfl
    have u1 := S.out.get 2 1 rfl rfl
    have u2 := S.out.free 2 0 rfl
    have u3 := S.out.free 2 1 rfl
    have r0 := S2.get 2 0 rfl rfl
    have r1 := S2.get 2 1 rfl rfl
    clear k0 k1
    go_wp2_with fail
    refine bodyPost_ret (v := .agg #[.slice Av1 r.room.length cv1, .slice Av2 r.strs.length cv2]) (by simp [results, Tryz.results45, go_sem, r0, r1]) rfl ⟨_, rfl, ⟨_, _, rfl, S2.own 0 rfl, S2.own 1 rfl⟩, S2.bel⟩

end Go.Proofs.YtldcehhhndlhdaaGreatDoor.Hr
