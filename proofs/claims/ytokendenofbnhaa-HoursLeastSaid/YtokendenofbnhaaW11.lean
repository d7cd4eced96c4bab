/- Walks: known (two ways), Least, Fewest. -/
import Derived.Test.YtokendenofbnhaaW10
namespace Go.Proofs.Ytokendenofbnhaa
open Go.RowKit Go.Sort

theorem St.rebase {w0 w1 w : World} {n : Nat} {L : List Item} (h : St w1 w n L) (hb : Below w0.heap.size w0 w1) : St w0 w n L :=
  ⟨h.size, bto hb h.bel, fun x hx => by
    have := h.ok x hx
    cases x with
    | box b cs => exact ⟨Nat.le_trans hb.size this.1, this.2⟩
    | own e size v m xs => exact own_base' this hb.size
    | any b p => exact ⟨Nat.le_trans hb.size this.1, this.2⟩, h.apart⟩

set_option maxRecDepth 20000 in
set_option maxHeartbeats 1000000 in
theorem knownSteps_err (v : Value) (r : Ros) (is : Bool) (w : World) (hv : RosAt w v r) (h : askE r is ≠ 0) :
    Calls Try.prog 63 #[v, .bool is, .func (.func 64) #[] #[]] w fun e w' => e = .returned (.tuple #[.pointer none, I 0, I (askE r is)]) ∧ Below w.heap.size w w' := by
  obtain ⟨rv, sv, rfl, hr, hs⟩ := hv
  obtain ⟨A1, c1, rfl, hr1, hr2, -⟩ := hr.open_
  obtain ⟨A2, c2, rfl, hs1, hs2, -⟩ := hs.open_
  have HR := Lib.hid hr
  have HS := Lib.hid hs
  clear hr hs
  have S := Lib.hid (show St w (w.alloc (.cells #[.slice A1 r.room.length c1, .slice A2 r.strs.length c2] 25)) (w.heap.size + 1) [.box w.heap.size [.slice A1 r.room.length c1, .slice A2 r.strs.length c2]] from (St.init w).alloc [.slice A1 r.room.length c1, .slice A2 r.strs.length c2] 25)
  have h' : (askE r is != 0) = true := by simp [h]
  have HE := Lib.hid h
  clear h
  obtain ⟨er, her⟩ : ∃ x, askE r is = x := ⟨_, rfl⟩
  rw [her] at h'
  have HX := Lib.hid her
  clear her
  go_enter Try.func63, Try.ntmps63
  go_wp2_with fail
  refine (ask_any _ r is _ ⟨_, _, rfl, HR.out.below S.out.bel, HS.out.below S.out.bel⟩).mono ?_
  rintro e w1 ⟨rfl, hb⟩
  rw [HX.out]
  have S := Lib.hid (S.out.call hb)
  clear hb
  go_wp2_with fail
  go_ret3
  exact ⟨by rw [HX.out]; rfl, S.out.bel⟩

set_option maxRecDepth 20000 in
set_option maxHeartbeats 1000000 in
theorem knownSteps_none (v : Value) (r : Ros) (is : Bool) (w : World) (hv : RosAt w v r) (h : askE r is = 0) (hn : (bestR stepsI r).2 < 0) :
    Calls Try.prog 63 #[v, .bool is, .func (.func 64) #[] #[]] w fun e w' => e = .returned (.tuple #[.pointer none, I 0, I 3]) ∧ Below w.heap.size w w' := by
  obtain ⟨rv, sv, rfl, hr, hs⟩ := hv
  obtain ⟨A1, c1, rfl, hr1, hr2, -⟩ := hr.open_
  obtain ⟨A2, c2, rfl, hs1, hs2, -⟩ := hs.open_
  have HR := Lib.hid hr
  have HS := Lib.hid hs
  clear hr hs
  have S := Lib.hid (show St w (w.alloc (.cells #[.slice A1 r.room.length c1, .slice A2 r.strs.length c2] 25)) (w.heap.size + 1) [.box w.heap.size [.slice A1 r.room.length c1, .slice A2 r.strs.length c2]] from (St.init w).alloc [.slice A1 r.room.length c1, .slice A2 r.strs.length c2] 25)
  have hok := valid_iff.1 (askE_zero.1 h).1
  have HE := Lib.hid h
  clear h
  go_enter Try.func63, Try.ntmps63
  go_wp2_with fail
  refine (ask_any _ r is _ ⟨_, _, rfl, HR.out.below S.out.bel, HS.out.below S.out.bel⟩).mono ?_
  rintro e w1 ⟨rfl, hb⟩
  rw [HE.out]
  have S := Lib.hid (S.out.call hb)
  clear hb
  have q0 := S.out.get 0 0 rfl rfl
  have q1 := S.out.get 0 1 rfl rfl
  go_wp2_with fail
  clear q0 q1
  refine (hire_any _ (.func 64) #[] #[] r (fun k l => bestP stepsI (r.strs.drop k) l) _ ⟨_, _, rfl, HR.out.below S.out.bel, HS.out.below S.out.bel⟩).mono ?_
  rintro e w2 ⟨c, m, rv', sv', he, rfl, hS⟩
  simp only [Value.agg.injEq] at he
  have he := congrArg Array.toList he
  simp only [List.cons.injEq, and_true] at he
  obtain ⟨rfl, rfl⟩ := he
  have hS := hS.perm (List.Perm.swap ..)
  go_wp2_with fail
  refine (leastSteps_any w1 r.strs r.room (.slice A1 r.room.length c1) A2 c2 c m (HS.out.below S.out.bel) hok.sl (fun s hs => (hok.so s hs).1) (HR.out.below S.out.bel) hok.rl (fun x hx => by have := hok.rm x hx; omega) w2 [] hS).mono ?_
  rintro e w3 ⟨rfl, hS3⟩
  clear hS
  obtain ⟨⟨x, y⟩, hxy⟩ : ∃ p, bestP stepsI r.strs (pad r.room) = p := ⟨_, rfl⟩
  rw [hxy]
  have HX := Lib.hid (show bestR stepsI r = (x, y) from hxy)
  clear hxy
  rw [HX.out] at hn
  have hd : decide (0 ≤ y) = false := by simp only [decide_eq_false_iff_not]; exact fun h => absurd hn (by simp only; omega)
  rw [hd]
  clear hd hn
  have S := Lib.hid (hS3.rebase S.out.bel)
  clear hS3
  go_wp2_with fail
  go_ret3
  exact ⟨rfl, S.out.bel⟩

set_option maxRecDepth 20000 in
set_option maxHeartbeats 1000000 in
theorem knownSteps_some (v : Value) (r : Ros) (is : Bool) (w : World) (hv : RosAt w v r) (h : askE r is = 0) (hn : 0 ≤ (bestR stepsI r).2) :
    Calls Try.prog 63 #[v, .bool is, .func (.func 64) #[] #[]] w fun e w' => ∃ c m rv A cs, v = .agg #[rv, .slice A r.strs.length cs] ∧ e = .returned (.tuple #[.pointer (some ⟨c, 0, none⟩), I (bestR stepsI r).1, I 0]) ∧ St w w' w'.heap.size [.any m (MemoP fun k l => bestP stepsI (r.strs.drop k) l), .box c [rv, .slice A r.strs.length cs, .func (.func 64) #[] #[], .map (some m)]] := by
  obtain ⟨rv, sv, rfl, hr, hs⟩ := hv
  obtain ⟨A1, c1, rfl, hr1, hr2, -⟩ := hr.open_
  obtain ⟨A2, c2, rfl, hs1, hs2, -⟩ := hs.open_
  have HR := Lib.hid hr
  have HS := Lib.hid hs
  clear hr hs
  have S := Lib.hid (show St w (w.alloc (.cells #[.slice A1 r.room.length c1, .slice A2 r.strs.length c2] 25)) (w.heap.size + 1) [.box w.heap.size [.slice A1 r.room.length c1, .slice A2 r.strs.length c2]] from (St.init w).alloc [.slice A1 r.room.length c1, .slice A2 r.strs.length c2] 25)
  have hok := valid_iff.1 (askE_zero.1 h).1
  have HE := Lib.hid h
  clear h
  go_enter Try.func63, Try.ntmps63
  go_wp2_with fail
  refine (ask_any _ r is _ ⟨_, _, rfl, HR.out.below S.out.bel, HS.out.below S.out.bel⟩).mono ?_
  rintro e w1 ⟨rfl, hb⟩
  rw [HE.out]
  have S := Lib.hid (S.out.call hb)
  clear hb
  have q0 := S.out.get 0 0 rfl rfl
  have q1 := S.out.get 0 1 rfl rfl
  go_wp2_with fail
  clear q0 q1
  refine (hire_any _ (.func 64) #[] #[] r (fun k l => bestP stepsI (r.strs.drop k) l) _ ⟨_, _, rfl, HR.out.below S.out.bel, HS.out.below S.out.bel⟩).mono ?_
  rintro e w2 ⟨c, m, rv', sv', he, rfl, hS⟩
  simp only [Value.agg.injEq] at he
  have he := congrArg Array.toList he
  simp only [List.cons.injEq, and_true] at he
  obtain ⟨rfl, rfl⟩ := he
  have hS := hS.perm (List.Perm.swap ..)
  go_wp2_with fail
  refine (leastSteps_any w1 r.strs r.room (.slice A1 r.room.length c1) A2 c2 c m (HS.out.below S.out.bel) hok.sl (fun s hs => (hok.so s hs).1) (HR.out.below S.out.bel) hok.rl (fun x hx => by have := hok.rm x hx; omega) w2 [] hS).mono ?_
  rintro e w3 ⟨rfl, hS3⟩
  clear hS
  obtain ⟨⟨x, y⟩, hxy⟩ : ∃ p, bestP stepsI r.strs (pad r.room) = p := ⟨_, rfl⟩
  rw [hxy]
  have HX := Lib.hid (show bestR stepsI r = (x, y) from hxy)
  clear hxy
  rw [HX.out] at hn
  have hd : decide (0 ≤ y) = true := by simp only [decide_eq_true_eq]; exact hn
  rw [hd]
  clear hd hn
  have S := Lib.hid (hS3.rebase S.out.bel)
  clear hS3
  go_wp2_with fail
  go_ret3
  exact ⟨c, m, _, A2, c2, rfl, by rw [HX.out]; rfl, S.out⟩

theorem knownSteps_any (v : Value) (r : Ros) (is : Bool) (w : World) (hv : RosAt w v r) :
    Calls Try.prog 63 #[v, .bool is, .func (.func 64) #[] #[]] w fun e w' => ∃ p, e = .returned (.tuple #[p, I (knownR stepsI r is).1, I (knownR stepsI r is).2]) ∧ Below w.heap.size w w' := by
  unfold knownR
  by_cases h : askE r is = 0
  · rw [if_pos h]
    by_cases hn : (bestR stepsI r).2 < 0
    · rw [if_pos hn]
      exact (knownSteps_none v r is w hv h hn).mono fun e w' ⟨h1, h2⟩ => ⟨_, h1, h2⟩
    · rw [if_neg hn]
      exact (knownSteps_some v r is w hv h (by omega)).mono fun e w' ⟨c, m, rv, A, cs, _, h1, h2⟩ => ⟨_, h1, h2.bel⟩
  · rw [if_neg h]
    exact (knownSteps_err v r is w hv h).mono fun e w' ⟨h1, h2⟩ => ⟨_, h1, h2⟩

set_option maxRecDepth 20000 in
set_option maxHeartbeats 1000000 in
theorem knownOnce_err (v : Value) (r : Ros) (is : Bool) (w : World) (hv : RosAt w v r) (h : askE r is ≠ 0) :
    Calls Try.prog 63 #[v, .bool is, .func (.func 80) #[] #[]] w fun e w' => e = .returned (.tuple #[.pointer none, I 0, I (askE r is)]) ∧ Below w.heap.size w w' := by
  obtain ⟨rv, sv, rfl, hr, hs⟩ := hv
  obtain ⟨A1, c1, rfl, hr1, hr2, -⟩ := hr.open_
  obtain ⟨A2, c2, rfl, hs1, hs2, -⟩ := hs.open_
  have HR := Lib.hid hr
  have HS := Lib.hid hs
  clear hr hs
  have S := Lib.hid (show St w (w.alloc (.cells #[.slice A1 r.room.length c1, .slice A2 r.strs.length c2] 25)) (w.heap.size + 1) [.box w.heap.size [.slice A1 r.room.length c1, .slice A2 r.strs.length c2]] from (St.init w).alloc [.slice A1 r.room.length c1, .slice A2 r.strs.length c2] 25)
  have h' : (askE r is != 0) = true := by simp [h]
  have HE := Lib.hid h
  clear h
  obtain ⟨er, her⟩ : ∃ x, askE r is = x := ⟨_, rfl⟩
  rw [her] at h'
  have HX := Lib.hid her
  clear her
  go_enter Try.func63, Try.ntmps63
  go_wp2_with fail
  refine (ask_any _ r is _ ⟨_, _, rfl, HR.out.below S.out.bel, HS.out.below S.out.bel⟩).mono ?_
  rintro e w1 ⟨rfl, hb⟩
  rw [HX.out]
  have S := Lib.hid (S.out.call hb)
  clear hb
  go_wp2_with fail
  go_ret3
  exact ⟨by rw [HX.out]; rfl, S.out.bel⟩

set_option maxRecDepth 20000 in
set_option maxHeartbeats 1000000 in
theorem knownOnce_none (v : Value) (r : Ros) (is : Bool) (w : World) (hv : RosAt w v r) (h : askE r is = 0) (hn : (bestR onceI r).2 < 0) :
    Calls Try.prog 63 #[v, .bool is, .func (.func 80) #[] #[]] w fun e w' => e = .returned (.tuple #[.pointer none, I 0, I 3]) ∧ Below w.heap.size w w' := by
  obtain ⟨rv, sv, rfl, hr, hs⟩ := hv
  obtain ⟨A1, c1, rfl, hr1, hr2, -⟩ := hr.open_
  obtain ⟨A2, c2, rfl, hs1, hs2, -⟩ := hs.open_
  have HR := Lib.hid hr
  have HS := Lib.hid hs
  clear hr hs
  have S := Lib.hid (show St w (w.alloc (.cells #[.slice A1 r.room.length c1, .slice A2 r.strs.length c2] 25)) (w.heap.size + 1) [.box w.heap.size [.slice A1 r.room.length c1, .slice A2 r.strs.length c2]] from (St.init w).alloc [.slice A1 r.room.length c1, .slice A2 r.strs.length c2] 25)
  have hok := valid_iff.1 (askE_zero.1 h).1
  have HE := Lib.hid h
  clear h
  go_enter Try.func63, Try.ntmps63
  go_wp2_with fail
  refine (ask_any _ r is _ ⟨_, _, rfl, HR.out.below S.out.bel, HS.out.below S.out.bel⟩).mono ?_
  rintro e w1 ⟨rfl, hb⟩
  rw [HE.out]
  have S := Lib.hid (S.out.call hb)
  clear hb
  have q0 := S.out.get 0 0 rfl rfl
  have q1 := S.out.get 0 1 rfl rfl
  go_wp2_with fail
  clear q0 q1
  refine (hire_any _ (.func 80) #[] #[] r (fun k l => bestP onceI (r.strs.drop k) l) _ ⟨_, _, rfl, HR.out.below S.out.bel, HS.out.below S.out.bel⟩).mono ?_
  rintro e w2 ⟨c, m, rv', sv', he, rfl, hS⟩
  simp only [Value.agg.injEq] at he
  have he := congrArg Array.toList he
  simp only [List.cons.injEq, and_true] at he
  obtain ⟨rfl, rfl⟩ := he
  have hS := hS.perm (List.Perm.swap ..)
  go_wp2_with fail
  refine (leastOnce_any w1 r.strs r.room (.slice A1 r.room.length c1) A2 c2 c m (HS.out.below S.out.bel) hok.sl (fun s hs => (hok.so s hs).1) (HR.out.below S.out.bel) hok.rl (fun x hx => by have := hok.rm x hx; omega) w2 [] hS).mono ?_
  rintro e w3 ⟨rfl, hS3⟩
  clear hS
  obtain ⟨⟨x, y⟩, hxy⟩ : ∃ p, bestP onceI r.strs (pad r.room) = p := ⟨_, rfl⟩
  rw [hxy]
  have HX := Lib.hid (show bestR onceI r = (x, y) from hxy)
  clear hxy
  rw [HX.out] at hn
  have hd : decide (0 ≤ y) = false := by simp only [decide_eq_false_iff_not]; exact fun h => absurd hn (by simp only; omega)
  rw [hd]
  clear hd hn
  have S := Lib.hid (hS3.rebase S.out.bel)
  clear hS3
  go_wp2_with fail
  go_ret3
  exact ⟨rfl, S.out.bel⟩

set_option maxRecDepth 20000 in
set_option maxHeartbeats 1000000 in
theorem knownOnce_some (v : Value) (r : Ros) (is : Bool) (w : World) (hv : RosAt w v r) (h : askE r is = 0) (hn : 0 ≤ (bestR onceI r).2) :
    Calls Try.prog 63 #[v, .bool is, .func (.func 80) #[] #[]] w fun e w' => ∃ c m rv A cs, v = .agg #[rv, .slice A r.strs.length cs] ∧ e = .returned (.tuple #[.pointer (some ⟨c, 0, none⟩), I (bestR onceI r).1, I 0]) ∧ St w w' w'.heap.size [.any m (MemoP fun k l => bestP onceI (r.strs.drop k) l), .box c [rv, .slice A r.strs.length cs, .func (.func 80) #[] #[], .map (some m)]] := by
  obtain ⟨rv, sv, rfl, hr, hs⟩ := hv
  obtain ⟨A1, c1, rfl, hr1, hr2, -⟩ := hr.open_
  obtain ⟨A2, c2, rfl, hs1, hs2, -⟩ := hs.open_
  have HR := Lib.hid hr
  have HS := Lib.hid hs
  clear hr hs
  have S := Lib.hid (show St w (w.alloc (.cells #[.slice A1 r.room.length c1, .slice A2 r.strs.length c2] 25)) (w.heap.size + 1) [.box w.heap.size [.slice A1 r.room.length c1, .slice A2 r.strs.length c2]] from (St.init w).alloc [.slice A1 r.room.length c1, .slice A2 r.strs.length c2] 25)
  have hok := valid_iff.1 (askE_zero.1 h).1
  have HE := Lib.hid h
  clear h
  go_enter Try.func63, Try.ntmps63
  go_wp2_with fail
  refine (ask_any _ r is _ ⟨_, _, rfl, HR.out.below S.out.bel, HS.out.below S.out.bel⟩).mono ?_
  rintro e w1 ⟨rfl, hb⟩
  rw [HE.out]
  have S := Lib.hid (S.out.call hb)
  clear hb
  have q0 := S.out.get 0 0 rfl rfl
  have q1 := S.out.get 0 1 rfl rfl
  go_wp2_with fail
  clear q0 q1
  refine (hire_any _ (.func 80) #[] #[] r (fun k l => bestP onceI (r.strs.drop k) l) _ ⟨_, _, rfl, HR.out.below S.out.bel, HS.out.below S.out.bel⟩).mono ?_
  rintro e w2 ⟨c, m, rv', sv', he, rfl, hS⟩
  simp only [Value.agg.injEq] at he
  have he := congrArg Array.toList he
  simp only [List.cons.injEq, and_true] at he
  obtain ⟨rfl, rfl⟩ := he
  have hS := hS.perm (List.Perm.swap ..)
  go_wp2_with fail
  refine (leastOnce_any w1 r.strs r.room (.slice A1 r.room.length c1) A2 c2 c m (HS.out.below S.out.bel) hok.sl (fun s hs => (hok.so s hs).1) (HR.out.below S.out.bel) hok.rl (fun x hx => by have := hok.rm x hx; omega) w2 [] hS).mono ?_
  rintro e w3 ⟨rfl, hS3⟩
  clear hS
  obtain ⟨⟨x, y⟩, hxy⟩ : ∃ p, bestP onceI r.strs (pad r.room) = p := ⟨_, rfl⟩
  rw [hxy]
  have HX := Lib.hid (show bestR onceI r = (x, y) from hxy)
  clear hxy
  rw [HX.out] at hn
  have hd : decide (0 ≤ y) = true := by simp only [decide_eq_true_eq]; exact hn
  rw [hd]
  clear hd hn
  have S := Lib.hid (hS3.rebase S.out.bel)
  clear hS3
  go_wp2_with fail
  go_ret3
  exact ⟨c, m, _, A2, c2, rfl, by rw [HX.out]; rfl, S.out⟩

theorem knownOnce_any (v : Value) (r : Ros) (is : Bool) (w : World) (hv : RosAt w v r) :
    Calls Try.prog 63 #[v, .bool is, .func (.func 80) #[] #[]] w fun e w' => ∃ p, e = .returned (.tuple #[p, I (knownR onceI r is).1, I (knownR onceI r is).2]) ∧ Below w.heap.size w w' := by
  unfold knownR
  by_cases h : askE r is = 0
  · rw [if_pos h]
    by_cases hn : (bestR onceI r).2 < 0
    · rw [if_pos hn]
      exact (knownOnce_none v r is w hv h hn).mono fun e w' ⟨h1, h2⟩ => ⟨_, h1, h2⟩
    · rw [if_neg hn]
      exact (knownOnce_some v r is w hv h (by omega)).mono fun e w' ⟨c, m, rv, A, cs, _, h1, h2⟩ => ⟨_, h1, h2.bel⟩
  · rw [if_neg h]
    exact (knownOnce_err v r is w hv h).mono fun e w' ⟨h1, h2⟩ => ⟨_, h1, h2⟩

set_option maxRecDepth 20000 in
set_option maxHeartbeats 1000000 in
theorem least_any (v : Value) (r : Ros) (w : World) (hv : RosAt w v r) :
    Calls Try.prog 26 #[v] w fun e w' => e = .returned (.tuple #[I (leastR r).1, I (leastR r).2]) ∧ Below w.heap.size w w' := by
  obtain ⟨rv, sv, rfl, hr, hs⟩ := hv
  obtain ⟨A1, c1, rfl, hr1, hr2, -⟩ := hr.open_
  obtain ⟨A2, c2, rfl, hs1, hs2, -⟩ := hs.open_
  have HR := Lib.hid hr
  have HS := Lib.hid hs
  clear hr hs
  have S := Lib.hid (show St w (w.alloc (.cells #[.slice A1 r.room.length c1, .slice A2 r.strs.length c2] 25)) (w.heap.size + 1) [.box w.heap.size [.slice A1 r.room.length c1, .slice A2 r.strs.length c2]] from (St.init w).alloc [.slice A1 r.room.length c1, .slice A2 r.strs.length c2] 25)
  obtain ⟨⟨n, er⟩, hk⟩ : ∃ p, leastR r = p := ⟨_, rfl⟩
  have HK := Lib.hid hk
  clear hk
  have q0 := S.out.get 0 0 rfl rfl
  have q1 := S.out.get 0 1 rfl rfl
  go_enter Try.func26, Try.ntmps26
  go_wp2_with fail
  clear q0 q1
  refine (knownSteps_any _ r true _ ⟨_, _, rfl, HR.out.below S.out.bel, HS.out.below S.out.bel⟩).mono ?_
  rintro e w1 ⟨p, rfl, hb⟩
  rw [show knownR stepsI r true = (n, er) from HK.out]
  have S := Lib.hid (S.out.call hb)
  clear hb
  go_wp2_with fail
  go_ret2
  exact ⟨by rw [HK.out]; rfl, S.out.bel⟩

set_option maxRecDepth 20000 in
set_option maxHeartbeats 1000000 in
theorem fewest_any (v : Value) (r : Ros) (w : World) (hv : RosAt w v r) :
    Calls Try.prog 43 #[v] w fun e w' => e = .returned (.tuple #[I (fewestR r).1, I (fewestR r).2]) ∧ Below w.heap.size w w' := by
  obtain ⟨rv, sv, rfl, hr, hs⟩ := hv
  obtain ⟨A1, c1, rfl, hr1, hr2, -⟩ := hr.open_
  obtain ⟨A2, c2, rfl, hs1, hs2, -⟩ := hs.open_
  have HR := Lib.hid hr
  have HS := Lib.hid hs
  clear hr hs
  have S := Lib.hid (show St w (w.alloc (.cells #[.slice A1 r.room.length c1, .slice A2 r.strs.length c2] 25)) (w.heap.size + 1) [.box w.heap.size [.slice A1 r.room.length c1, .slice A2 r.strs.length c2]] from (St.init w).alloc [.slice A1 r.room.length c1, .slice A2 r.strs.length c2] 25)
  obtain ⟨⟨n, er⟩, hk⟩ : ∃ p, fewestR r = p := ⟨_, rfl⟩
  have HK := Lib.hid hk
  clear hk
  have q0 := S.out.get 0 0 rfl rfl
  have q1 := S.out.get 0 1 rfl rfl
  go_enter Try.func43, Try.ntmps43
  go_wp2_with fail
  clear q0 q1
  refine (knownOnce_any _ r true _ ⟨_, _, rfl, HR.out.below S.out.bel, HS.out.below S.out.bel⟩).mono ?_
  rintro e w1 ⟨p, rfl, hb⟩
  rw [show knownR onceI r true = (n, er) from HK.out]
  have S := Lib.hid (S.out.call hb)
  clear hb
  go_wp2_with fail
  go_ret2
  exact ⟨by rw [HK.out]; rfl, S.out.bel⟩

end Go.Proofs.Ytokendenofbnhaa
