/- Walks: IndexFunc and ContainsFunc at the rooms and at the streets; Check; ask. -/
import Derived.Test.YtokendenofbnhaaW1
namespace Go.Proofs.Ytokendenofbnhaa
open Go.RowKit Go.Sort

set_option maxRecDepth 20000 in
set_option maxHeartbeats 1000000 in
theorem indexRoom_no (v : Value) (xs : List Int) (w : World) (hr : Ints w v xs) (hn : xs.any badRoom = false) :
    Calls Try.prog 96 #[v, .func (.func 84) #[] #[]] w fun e w' => e = .returned (I (-1)) ∧ Below w.heap.size w w' := by
  obtain ⟨A, c, rfl, hnc, hcm, hc⟩ := hr.open_
  have HC := Lib.hid hc; clear hc
  have HN := Lib.hid hn; clear hn hr
  go_enter Try.func96, Try.ntmps96
  go_wp2_with fail
  go_loopw [8] (fun i wr => ∃ k : Nat, k ≤ xs.length ∧ i = I k ∧ Hid (Below w.heap.size w wr)) (fun i _ => xs.length - (intOf i).toNat)
  case atStart => exact ⟨0, by omega, rfl, Lib.hid (Below.refl _ _)⟩
  case round =>
    obtain ⟨k, hk, rfl, hbw⟩ := hrel
    by_cases hlt : k < xs.length
    · obtain ⟨b, o, rfl, hbl, hcell⟩ := HC.out (by omega)
      have hcell := keep_cell hbw.out (hcell k hlt)
      have hb : badRoom xs[k] = false := by
        have := HN.out
        simp only [List.any_eq_false] at this
        simpa using this _ (List.getElem_mem hlt)
      go_wp2_with (go_at_call 84; refine (badRoom_any _ _).mono ?_; rintro e w' ⟨rfl, rfl⟩)
      go_roundw
      case rel => exact ⟨k + 1, by omega, by go_num, hbw⟩
      case measure => simp [intOf]; omega
    · go_wp2_with fail
      go_ret
      exact ⟨rfl, hbw.out⟩

set_option maxRecDepth 20000 in
set_option maxHeartbeats 1000000 in
theorem indexRoom_yes (v : Value) (xs : List Int) (w : World) (hr : Ints w v xs) (hn : xs.any badRoom = true) :
    Calls Try.prog 96 #[v, .func (.func 84) #[] #[]] w fun e w' => RetNat w e w' := by
  obtain ⟨A, c, rfl, hnc, hcm, hc⟩ := hr.open_
  have HC := Lib.hid hc; clear hc
  have HN := Lib.hid hn; clear hn hr
  go_enter Try.func96, Try.ntmps96
  go_wp2_with fail
  go_loopw [8] (fun i wr => ∃ k : Nat, k ≤ xs.length ∧ i = I k ∧ (xs.drop k).any badRoom = true ∧ Hid (Below w.heap.size w wr)) (fun i _ => xs.length - (intOf i).toNat)
  case atStart => exact ⟨0, by omega, rfl, HN.out, Lib.hid (Below.refl _ _)⟩
  case round =>
    obtain ⟨k, hk, rfl, hd, hbw⟩ := hrel
    have hlt : k < xs.length := by
      apply Classical.byContradiction
      intro hge
      rw [List.drop_eq_nil_of_le (by omega)] at hd
      simp at hd
    rw [List.drop_eq_getElem_cons hlt, List.any_cons] at hd
    obtain ⟨b, o, rfl, hbl, hcell⟩ := HC.out (by omega)
    have hcell := keep_cell hbw.out (hcell k hlt)
    have HD := Lib.hid hd; clear hd
    cases hb : badRoom xs[k]
    · go_wp2_with (go_at_call 84; refine (badRoom_any _ _).mono ?_; rintro e w' ⟨rfl, rfl⟩)
      go_roundw
      case rel => exact ⟨k + 1, by omega, by go_num, by have := HD.out; simpa [hb] using this, hbw⟩
      case measure => simp [intOf]; omega
    · go_wp2_with (go_at_call 84; refine (badRoom_any _ _).mono ?_; rintro e w' ⟨rfl, rfl⟩)
      go_ret
      exact ⟨k, rfl, hbw.out⟩

set_option maxRecDepth 20000 in
set_option maxHeartbeats 1000000 in
theorem containsRoom_any (v : Value) (xs : List Int) (w : World) (hr : Ints w v xs) :
    Calls Try.prog 87 #[v, .func (.func 84) #[] #[]] w fun e w' => e = .returned (.bool (xs.any badRoom)) ∧ Below w.heap.size w w' := by
  cases hb : xs.any badRoom
  · go_enter Try.func87, Try.ntmps87
    go_wp2_with (go_at_call 96; refine (indexRoom_no _ _ _ hr hb).mono ?_; rintro e w' ⟨rfl, hw⟩)
    go_ret
    exact ⟨rfl, hw⟩
  · go_enter Try.func87, Try.ntmps87
    go_wp2_with (go_at_call 96; refine (indexRoom_yes _ _ _ hr hb).mono ?_; rintro e w' ⟨k, rfl, hw⟩)
    go_ret
    exact ⟨by simp, hw⟩

set_option maxRecDepth 20000 in
set_option maxHeartbeats 1000000 in
theorem indexStr_no (v : Value) (xs : List Str) (r : Ros) (bx : Nat) (w : World) (hr : Strs w v xs) (hx : BoxAt w bx r) (hn : xs.any (badStr r) = false) :
    Calls Try.prog 97 #[v, .func (.func 86) #[] #[.pointer (some ⟨bx, 0, none⟩)]] w fun e w' => e = .returned (I (-1)) ∧ Below w.heap.size w w' := by
  obtain ⟨A, c, rfl, hnc, hcm, hc⟩ := hr.open_
  have HC := Lib.hid hc; clear hc
  have HN := Lib.hid hn; clear hn hr
  have HX := Lib.hid hx; clear hx
  go_enter Try.func97, Try.ntmps97
  go_wp2_with fail
  go_loopw [8] (fun i wr => ∃ k : Nat, k ≤ xs.length ∧ i = I k ∧ Hid (Below w.heap.size w wr)) (fun i _ => xs.length - (intOf i).toNat)
  case atStart => exact ⟨0, by omega, rfl, Lib.hid (Below.refl _ _)⟩
  case round =>
    obtain ⟨k, hk, rfl, hbw⟩ := hrel
    by_cases hlt : k < xs.length
    · obtain ⟨b, o, rfl, hbl, hcell⟩ := HC.out (by omega)
      obtain ⟨h1, h2, h3, h4⟩ := hcell k hlt
      have h1 := keep_cell hbw.out h1
      have h2 := keep_cell hbw.out h2
      have h3 := keep_cell hbw.out h3
      have h4 := keep_cell hbw.out h4
      clear hcell
      have hb : badStr r xs[k] = false := by
        have := HN.out
        simp only [List.any_eq_false] at this
        simpa using this _ (List.getElem_mem hlt)
      go_wp2_with (go_at_call 86; refine (badStr_any r xs[k] bx _ (HX.out.below hbw.out)).mono ?_; rintro e w' ⟨rfl, hw'⟩; have hbw := Lib.hid (bto hbw.out hw'); clear hw')
      go_roundw
      case rel => exact ⟨k + 1, by omega, by go_num, hbw⟩
      case measure => simp [intOf]; omega
    · go_wp2_with fail
      go_ret
      exact ⟨rfl, hbw.out⟩

set_option maxRecDepth 20000 in
set_option maxHeartbeats 1000000 in
theorem indexStr_yes (v : Value) (xs : List Str) (r : Ros) (bx : Nat) (w : World) (hr : Strs w v xs) (hx : BoxAt w bx r) (hn : xs.any (badStr r) = true) :
    Calls Try.prog 97 #[v, .func (.func 86) #[] #[.pointer (some ⟨bx, 0, none⟩)]] w fun e w' => RetNat w e w' := by
  obtain ⟨A, c, rfl, hnc, hcm, hc⟩ := hr.open_
  have HC := Lib.hid hc; clear hc
  have HN := Lib.hid hn; clear hn hr
  have HX := Lib.hid hx; clear hx
  go_enter Try.func97, Try.ntmps97
  go_wp2_with fail
  go_loopw [8] (fun i wr => ∃ k : Nat, k ≤ xs.length ∧ i = I k ∧ (xs.drop k).any (badStr r) = true ∧ Hid (Below w.heap.size w wr)) (fun i _ => xs.length - (intOf i).toNat)
  case atStart => exact ⟨0, by omega, rfl, HN.out, Lib.hid (Below.refl _ _)⟩
  case round =>
    obtain ⟨k, hk, rfl, hd, hbw⟩ := hrel
    have hlt : k < xs.length := by
      apply Classical.byContradiction
      intro hge
      rw [List.drop_eq_nil_of_le (by omega)] at hd
      simp at hd
    rw [List.drop_eq_getElem_cons hlt, List.any_cons] at hd
    obtain ⟨b, o, rfl, hbl, hcell⟩ := HC.out (by omega)
    obtain ⟨h1, h2, h3, h4⟩ := hcell k hlt
    have h1 := keep_cell hbw.out h1
    have h2 := keep_cell hbw.out h2
    have h3 := keep_cell hbw.out h3
    have h4 := keep_cell hbw.out h4
    clear hcell
    have HD := Lib.hid hd; clear hd
    cases hb : badStr r xs[k]
    · go_wp2_with (go_at_call 86; refine (badStr_any r xs[k] bx _ (HX.out.below hbw.out)).mono ?_; rintro e w' ⟨rfl, hw'⟩; have hbw := Lib.hid (bto hbw.out hw'); clear hw')
      go_roundw
      case rel => exact ⟨k + 1, by omega, by go_num, by have := HD.out; simpa [hb] using this, hbw⟩
      case measure => simp [intOf]; omega
    · go_wp2_with (go_at_call 86; refine (badStr_any r xs[k] bx _ (HX.out.below hbw.out)).mono ?_; rintro e w' ⟨rfl, hw'⟩; have hbw := Lib.hid (bto hbw.out hw'); clear hw')
      go_ret
      exact ⟨k, rfl, hbw.out⟩

set_option maxRecDepth 20000 in
set_option maxHeartbeats 1000000 in
theorem containsStr_any (v : Value) (xs : List Str) (r : Ros) (bx : Nat) (w : World) (hr : Strs w v xs) (hx : BoxAt w bx r) :
    Calls Try.prog 88 #[v, .func (.func 86) #[] #[.pointer (some ⟨bx, 0, none⟩)]] w fun e w' => e = .returned (.bool (xs.any (badStr r))) ∧ Below w.heap.size w w' := by
  cases hb : xs.any (badStr r)
  · go_enter Try.func88, Try.ntmps88
    go_wp2_with (go_at_call 97; refine (indexStr_no _ _ r bx _ hr hx hb).mono ?_; rintro e w' ⟨rfl, hw⟩)
    go_ret
    exact ⟨rfl, hw⟩
  · go_enter Try.func88, Try.ntmps88
    go_wp2_with (go_at_call 97; refine (indexStr_yes _ _ r bx _ hr hx hb).mono ?_; rintro e w' ⟨k, rfl, hw⟩)
    go_ret
    exact ⟨by simp, hw⟩

set_option maxRecDepth 20000 in
set_option maxHeartbeats 4000000 in
theorem check_any (v : Value) (r : Ros) (w : World) (hv : RosAt w v r) :
    Calls Try.prog 52 #[v] w fun e w' => e = .returned (I (chk r)) ∧ Below w.heap.size w w' := by
  obtain ⟨rv, sv, rfl, hr, hs⟩ := hv
  have HR := Lib.hid hr
  have HS := Lib.hid hs
  obtain ⟨A, c, rfl, h1, h2, -⟩ := hr.open_
  obtain ⟨A', c', rfl, h3, h4, -⟩ := hs.open_
  clear hr hs
  have k0 := box_cell w #[.slice A r.room.length c, .slice A' r.strs.length c'] 25 0 rfl
  have k1 := box_cell w #[.slice A r.room.length c, .slice A' r.strs.length c'] 25 1 rfl
  have HB := Lib.hid (show Below w.heap.size w (w.alloc (.cells #[.slice A r.room.length c, .slice A' r.strs.length c'] 25)) from (Below.refl _ _).alloc (Nat.le_refl _) _)
  by_cases g1 : 8 < r.room.length
  · have e : chk r = 80 := by simp [chk, valid]; omega
    have HE := Lib.hid e; clear e
    go_enter Try.func52, Try.ntmps52
    go_wp2_with (first | (go_at_call 87; refine (containsRoom_any _ r.room _ (HR.out.below HB.out)).mono ?_; rintro e w1 ⟨rfl, hb⟩; have k0 := keep_cell hb k0; have k1 := keep_cell hb k1; have HB := Lib.hid (bto HB.out hb); clear hb) | (go_at_call 88; refine (containsStr_any _ r.strs r w.heap.size _ (HS.out.below HB.out) ⟨_, _, k0, k1, HR.out.below HB.out, HS.out.below HB.out⟩).mono ?_; rintro e w2 ⟨rfl, hb⟩; have k0 := keep_cell hb k0; have k1 := keep_cell hb k1; have HB := Lib.hid (bto HB.out hb); clear hb))
    go_ret
    exact ⟨by rw [HE.out]; rfl, HB.out⟩
  · cases g2 : r.room.any badRoom
    · by_cases g3 : 6 < r.strs.length
      · have e : chk r = 80 := by simp [chk, valid]; omega
        have HE := Lib.hid e; clear e
        go_enter Try.func52, Try.ntmps52
        go_wp2_with (first | (go_at_call 87; refine (containsRoom_any _ r.room _ (HR.out.below HB.out)).mono ?_; rintro e w1 ⟨rfl, hb⟩; have k0 := keep_cell hb k0; have k1 := keep_cell hb k1; have HB := Lib.hid (bto HB.out hb); clear hb) | (go_at_call 88; refine (containsStr_any _ r.strs r w.heap.size _ (HS.out.below HB.out) ⟨_, _, k0, k1, HR.out.below HB.out, HS.out.below HB.out⟩).mono ?_; rintro e w2 ⟨rfl, hb⟩; have k0 := keep_cell hb k0; have k1 := keep_cell hb k1; have HB := Lib.hid (bto HB.out hb); clear hb))
        go_ret
        exact ⟨by rw [HE.out]; rfl, HB.out⟩
      · cases g4 : r.strs.any (badStr r)
        · have e : chk r = 0 := by simp only [chk, valid, g2, g4]; rw [if_pos (by simp; omega)]
          have HE := Lib.hid e; clear e
          go_enter Try.func52, Try.ntmps52
          go_wp2_with (first | (go_at_call 87; refine (containsRoom_any _ r.room _ (HR.out.below HB.out)).mono ?_; rintro e w1 ⟨rfl, hb⟩; have k0 := keep_cell hb k0; have k1 := keep_cell hb k1; have HB := Lib.hid (bto HB.out hb); clear hb) | (go_at_call 88; refine (containsStr_any _ r.strs r w.heap.size _ (HS.out.below HB.out) ⟨_, _, k0, k1, HR.out.below HB.out, HS.out.below HB.out⟩).mono ?_; rintro e w2 ⟨rfl, hb⟩; have k0 := keep_cell hb k0; have k1 := keep_cell hb k1; have HB := Lib.hid (bto HB.out hb); clear hb))
          go_ret
          exact ⟨by rw [HE.out]; rfl, HB.out⟩
        · have e : chk r = 80 := by simp only [chk, valid, g2, g4]; rw [if_neg (by simp)]
          have HE := Lib.hid e; clear e
          go_enter Try.func52, Try.ntmps52
          go_wp2_with (first | (go_at_call 87; refine (containsRoom_any _ r.room _ (HR.out.below HB.out)).mono ?_; rintro e w1 ⟨rfl, hb⟩; have k0 := keep_cell hb k0; have k1 := keep_cell hb k1; have HB := Lib.hid (bto HB.out hb); clear hb) | (go_at_call 88; refine (containsStr_any _ r.strs r w.heap.size _ (HS.out.below HB.out) ⟨_, _, k0, k1, HR.out.below HB.out, HS.out.below HB.out⟩).mono ?_; rintro e w2 ⟨rfl, hb⟩; have k0 := keep_cell hb k0; have k1 := keep_cell hb k1; have HB := Lib.hid (bto HB.out hb); clear hb))
          go_ret
          exact ⟨by rw [HE.out]; rfl, HB.out⟩
    · have e : chk r = 80 := by simp only [chk, valid, g2]; rw [if_neg (by simp)]
      have HE := Lib.hid e; clear e
      go_enter Try.func52, Try.ntmps52
      go_wp2_with (first | (go_at_call 87; refine (containsRoom_any _ r.room _ (HR.out.below HB.out)).mono ?_; rintro e w1 ⟨rfl, hb⟩; have k0 := keep_cell hb k0; have k1 := keep_cell hb k1; have HB := Lib.hid (bto HB.out hb); clear hb) | (go_at_call 88; refine (containsStr_any _ r.strs r w.heap.size _ (HS.out.below HB.out) ⟨_, _, k0, k1, HR.out.below HB.out, HS.out.below HB.out⟩).mono ?_; rintro e w2 ⟨rfl, hb⟩; have k0 := keep_cell hb k0; have k1 := keep_cell hb k1; have HB := Lib.hid (bto HB.out hb); clear hb))
      go_ret
      exact ⟨by rw [HE.out]; rfl, HB.out⟩

set_option maxRecDepth 20000 in
set_option maxHeartbeats 2000000 in
theorem ask_any (v : Value) (r : Ros) (is : Bool) (w : World) (hv : RosAt w v r) :
    Calls Try.prog 70 #[v, .bool is] w fun e w' => e = .returned (I (askE r is)) ∧ Below w.heap.size w w' := by
  obtain ⟨rv, sv, rfl, hr, hs⟩ := hv
  have HR := Lib.hid hr
  have HS := Lib.hid hs
  clear hr hs
  have HB := Lib.hid (show Below w.heap.size w (w.alloc (.cells #[rv, sv] 25)) from (Below.refl _ _).alloc (Nat.le_refl _) _)
  cases h : valid r
  · have HC := Lib.hid (show chk r = 80 by simp [chk, h])
    have HE := Lib.hid (show askE r is = 80 by simp [askE, h])
    clear h
    go_enter Try.func70, Try.ntmps70
    go_wp2_with (go_at_call 52; refine (check_any _ r _ ⟨_, _, rfl, HR.out.below HB.out, HS.out.below HB.out⟩).mono ?_; rintro e w1 ⟨rfl, hb⟩; rw [HC.out]; have HB := Lib.hid (bto HB.out hb); clear hb)
    go_ret
    exact ⟨by rw [HE.out]; rfl, HB.out⟩
  · have HC := Lib.hid (show chk r = 0 by simp [chk, h])
    cases is
    · have HE := Lib.hid (show askE r false = 1 by simp [askE, h])
      clear h
      go_enter Try.func70, Try.ntmps70
      go_wp2_with (go_at_call 52; refine (check_any _ r _ ⟨_, _, rfl, HR.out.below HB.out, HS.out.below HB.out⟩).mono ?_; rintro e w1 ⟨rfl, hb⟩; rw [HC.out]; have HB := Lib.hid (bto HB.out hb); clear hb)
      go_ret
      exact ⟨by rw [HE.out]; rfl, HB.out⟩
    · have HE := Lib.hid (show askE r true = 0 by simp [askE, h])
      clear h
      go_enter Try.func70, Try.ntmps70
      go_wp2_with (go_at_call 52; refine (check_any _ r _ ⟨_, _, rfl, HR.out.below HB.out, HS.out.below HB.out⟩).mono ?_; rintro e w1 ⟨rfl, hb⟩; rw [HC.out]; have HB := Lib.hid (bto HB.out hb); clear hb)
      go_ret
      exact ⟨by rw [HE.out]; rfl, HB.out⟩

end Go.Proofs.Ytokendenofbnhaa
