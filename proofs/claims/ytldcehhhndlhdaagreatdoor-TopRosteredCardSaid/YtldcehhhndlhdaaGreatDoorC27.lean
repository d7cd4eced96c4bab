/- Walks: IndexFunc and ContainsFunc at the rooms and at the streets; Check; ask. -/
import Derived.Test.YtldcehhhndlhdaaGreatDoorC26
import Derived.Lib.MinMax
import Derived.Maps.Own
namespace Go.Proofs.YtldcehhhndlhdaaGreatDoor.Hr
open Go.RowKit Go.Sort

set_option maxRecDepth 20000 in
set_option maxHeartbeats 1000000 in
theorem indexRoom_no (v : Value) (xs : List Int) (w : World) (hr : Ints w v xs) (hn : xs.any badRoom = false) :
    Calls Tryz.prog 74 #[v, .func (.func 69) #[] #[]] w fun e w' => e = .returned (I (-1)) ∧ Below w.heap.size w w' := by
  obtain ⟨A, c, rfl, hnc, hcm, hc⟩ := hr.open_
  have HC := Lib.hid hc; clear hc
  have HN := Lib.hid hn; clear hn hr
  go_enter Tryz.func74, Tryz.ntmps74
  go_wp2_with fail
  go_loopw [8] (fun i wr => ∃ k : Nat, k ≤ xs.length ∧ i = I k ∧ Hid (Below w.heap.size w wr)) (fun i _ => xs.length - (intOf i).toNat)
  case atStart => exact ⟨0, by omega, rfl, Lib.hid (Below.refl _ _)⟩
  case round =>
    obtain ⟨k, hk, rfl, hbw⟩ := hrel
    by_cases hlt : k < xs.length
    · obtain ⟨b, o, rfl, hbl, hcell⟩ := HC.out (by omega)
      have hcell := keep_cell hbw.out (hcell k hlt)
      have hb : badRoom xs[k] = false := by
        have := HN.out
        simp only [List.any_eq_false] at this
        simpa using this _ (List.getElem_mem hlt)
      go_wp2_with (go_at_call 69; refine (badRoom_any _ _).mono ?_; rintro e w' ⟨rfl, rfl⟩)
      go_roundw
      case rel => exact ⟨k + 1, by omega, by go_num, hbw⟩
      case measure => simp [intOf]; omega
    · go_wp2_with fail
      go_ret
      exact ⟨rfl, hbw.out⟩

set_option maxRecDepth 20000 in
set_option maxHeartbeats 1000000 in
theorem indexRoom_yes (v : Value) (xs : List Int) (w : World) (hr : Ints w v xs) (hn : xs.any badRoom = true) :
    Calls Tryz.prog 74 #[v, .func (.func 69) #[] #[]] w fun e w' => RetNat w e w' := by
  obtain ⟨A, c, rfl, hnc, hcm, hc⟩ := hr.open_
  have HC := Lib.hid hc; clear hc
  have HN := Lib.hid hn; clear hn hr
  go_enter Tryz.func74, Tryz.ntmps74
  go_wp2_with fail
  go_loopw [8] (fun i wr => ∃ k : Nat, k ≤ xs.length ∧ i = I k ∧ (xs.drop k).any badRoom = true ∧ Hid (Below w.heap.size w wr)) (fun i _ => xs.length - (intOf i).toNat)
  case atStart => exact ⟨0, by omega, rfl, HN.out, Lib.hid (Below.refl _ _)⟩
  case round =>
    obtain ⟨k, hk, rfl, hd, hbw⟩ := hrel
    have hlt : k < xs.length := by
      apply Classical.byContradiction
      intro hge
      rw [List.drop_eq_nil_of_le (by omega)] at hd
      simp at hd
    rw [List.drop_eq_getElem_cons hlt, List.any_cons] at hd
    obtain ⟨b, o, rfl, hbl, hcell⟩ := HC.out (by omega)
    have hcell := keep_cell hbw.out (hcell k hlt)
    have HD := Lib.hid hd; clear hd
    cases hb : badRoom xs[k]
    · go_wp2_with (go_at_call 69; refine (badRoom_any _ _).mono ?_; rintro e w' ⟨rfl, rfl⟩)
      go_roundw
      case rel => exact ⟨k + 1, by omega, by go_num, by have := HD.out; simpa [hb] using this, hbw⟩
      case measure => simp [intOf]; omega
    · go_wp2_with (go_at_call 69; refine (badRoom_any _ _).mono ?_; rintro e w' ⟨rfl, rfl⟩)
      go_ret
      exact ⟨k, rfl, hbw.out⟩

set_option maxRecDepth 20000 in
set_option maxHeartbeats 1000000 in
theorem containsRoom_any (v : Value) (xs : List Int) (w : World) (hr : Ints w v xs) :
    Calls Tryz.prog 37 #[v, .func (.func 69) #[] #[]] w fun e w' => e = .returned (.bool (xs.any badRoom)) ∧ Below w.heap.size w w' := by
  cases hb : xs.any badRoom
  · go_enter Tryz.func37, Tryz.ntmps37
    go_wp2_with (go_at_call 74; refine (indexRoom_no _ _ _ hr hb).mono ?_; rintro e w' ⟨rfl, hw⟩)
    go_ret
    exact ⟨rfl, hw⟩
  · go_enter Tryz.func37, Tryz.ntmps37
    go_wp2_with (go_at_call 74; refine (indexRoom_yes _ _ _ hr hb).mono ?_; rintro e w' ⟨k, rfl, hw⟩)
    go_ret
    exact ⟨by simp, hw⟩

set_option maxRecDepth 20000 in
set_option maxHeartbeats 1000000 in
theorem indexStr_no (v : Value) (xs : List Str) (r : Ros) (bx : Nat) (w : World) (hr : Strs w v xs) (hx : BoxAt w bx r) (hn : xs.any (badStr r) = false) :
    Calls Tryz.prog 82 #[v, .func (.func 71) #[] #[.pointer (some ⟨bx, 0, none⟩)]] w fun e w' => e = .returned (I (-1)) ∧ Below w.heap.size w w' := by
  obtain ⟨A, c, rfl, hnc, hcm, hc⟩ := hr.open_
  have HC := Lib.hid hc; clear hc
  have HN := Lib.hid hn; clear hn hr
  have HX := Lib.hid hx; clear hx
  go_enter Tryz.func82, Tryz.ntmps82
  go_wp2_with fail
  go_loopw [8] (fun i wr => ∃ k : Nat, k ≤ xs.length ∧ i = I k ∧ Hid (Below w.heap.size w wr)) (fun i _ => xs.length - (intOf i).toNat)
  case atStart => exact ⟨0, by omega, rfl, Lib.hid (Below.refl _ _)⟩
  case round =>
    obtain ⟨k, hk, rfl, hbw⟩ := hrel
    by_cases hlt : k < xs.length
    · obtain ⟨b, o, rfl, hbl, hcell⟩ := HC.out (by omega)
      obtain ⟨h1, h2, h3, h4⟩ := hcell k hlt
      have h1 := keep_cell hbw.out h1
      have h2 := keep_cell hbw.out h2
      have h3 := keep_cell hbw.out h3
      have h4 := keep_cell hbw.out h4
      clear hcell
      have hb : badStr r xs[k] = false := by
        have := HN.out
        simp only [List.any_eq_false] at this
        simpa using this _ (List.getElem_mem hlt)
      go_wp2_with (go_at_call 71; refine (badStr_any r xs[k] bx _ (HX.out.below hbw.out)).mono ?_; rintro e w' ⟨rfl, hw'⟩; have hbw := Lib.hid (bto hbw.out hw'); clear hw')
      go_roundw
      case rel => exact ⟨k + 1, by omega, by go_num, hbw⟩
      case measure => simp [intOf]; omega
    · go_wp2_with fail
      go_ret
      exact ⟨rfl, hbw.out⟩

set_option maxRecDepth 20000 in
set_option maxHeartbeats 1000000 in
theorem indexStr_yes (v : Value) (xs : List Str) (r : Ros) (bx : Nat) (w : World) (hr : Strs w v xs) (hx : BoxAt w bx r) (hn : xs.any (badStr r) = true) :
    Calls Tryz.prog 82 #[v, .func (.func 71) #[] #[.pointer (some ⟨bx, 0, none⟩)]] w fun e w' => RetNat w e w' := by
  obtain ⟨A, c, rfl, hnc, hcm, hc⟩ := hr.open_
  have HC := Lib.hid hc; clear hc
  have HN := Lib.hid hn; clear hn hr
  have HX := Lib.hid hx; clear hx
  go_enter Tryz.func82, Tryz.ntmps82
  go_wp2_with fail
  go_loopw [8] (fun i wr => ∃ k : Nat, k ≤ xs.length ∧ i = I k ∧ (xs.drop k).any (badStr r) = true ∧ Hid (Below w.heap.size w wr)) (fun i _ => xs.length - (intOf i).toNat)
  case atStart => exact ⟨0, by omega, rfl, HN.out, Lib.hid (Below.refl _ _)⟩
  case round =>
    obtain ⟨k, hk, rfl, hd, hbw⟩ := hrel
    have hlt : k < xs.length := by
      apply Classical.byContradiction
      intro hge
      rw [List.drop_eq_nil_of_le (by omega)] at hd
      simp at hd
    rw [List.drop_eq_getElem_cons hlt, List.any_cons] at hd
    obtain ⟨b, o, rfl, hbl, hcell⟩ := HC.out (by omega)
    obtain ⟨h1, h2, h3, h4⟩ := hcell k hlt
    have h1 := keep_cell hbw.out h1
    have h2 := keep_cell hbw.out h2
    have h3 := keep_cell hbw.out h3
    have h4 := keep_cell hbw.out h4
    clear hcell
    have HD := Lib.hid hd; clear hd
    cases hb : badStr r xs[k]
    · go_wp2_with (go_at_call 71; refine (badStr_any r xs[k] bx _ (HX.out.below hbw.out)).mono ?_; rintro e w' ⟨rfl, hw'⟩; have hbw := Lib.hid (bto hbw.out hw'); clear hw')
      go_roundw
      case rel => exact ⟨k + 1, by omega, by go_num, by have := HD.out; simpa [hb] using this, hbw⟩
      case measure => simp [intOf]; omega
    · go_wp2_with (go_at_call 71; refine (badStr_any r xs[k] bx _ (HX.out.below hbw.out)).mono ?_; rintro e w' ⟨rfl, hw'⟩; have hbw := Lib.hid (bto hbw.out hw'); clear hw')
      go_ret
      exact ⟨k, rfl, hbw.out⟩

set_option maxRecDepth 20000 in
set_option maxHeartbeats 1000000 in
theorem containsStr_any (v : Value) (xs : List Str) (r : Ros) (bx : Nat) (w : World) (hr : Strs w v xs) (hx : BoxAt w bx r) :
    Calls Tryz.prog 73 #[v, .func (.func 71) #[] #[.pointer (some ⟨bx, 0, none⟩)]] w fun e w' => e = .returned (.bool (xs.any (badStr r))) ∧ Below w.heap.size w w' := by
  cases hb : xs.any (badStr r)
  · go_enter Tryz.func73, Tryz.ntmps73
    go_wp2_with (go_at_call 82; refine (indexStr_no _ _ r bx _ hr hx hb).mono ?_; rintro e w' ⟨rfl, hw⟩)
    go_ret
    exact ⟨rfl, hw⟩
  · go_enter Tryz.func73, Tryz.ntmps73
    go_wp2_with (go_at_call 82; refine (indexStr_yes _ _ r bx _ hr hx hb).mono ?_; rintro e w' ⟨k, rfl, hw⟩)
    go_ret
    exact ⟨by simp, hw⟩

set_option maxRecDepth 20000 in
set_option maxHeartbeats 4000000 in
theorem check_any (v : Value) (r : Ros) (w : World) (hv : RosAt w v r) :
    Calls Tryz.prog 36 #[v] w fun e w' => e = .returned (I (chk r)) ∧ Below w.heap.size w w' := by
  obtain ⟨rv, sv, rfl, hr, hs⟩ := hv
  have HR := Lib.hid hr
  have HS := Lib.hid hs
  obtain ⟨A, c, rfl, h1, h2, -⟩ := hr.open_
  obtain ⟨A', c', rfl, h3, h4, -⟩ := hs.open_
  clear hr hs
  have k0 := box_cell w #[.slice A r.room.length c, .slice A' r.strs.length c'] 25 0 rfl
  have k1 := box_cell w #[.slice A r.room.length c, .slice A' r.strs.length c'] 25 1 rfl
  have HB := Lib.hid (show Below w.heap.size w (w.alloc (.cells #[.slice A r.room.length c, .slice A' r.strs.length c'] 25)) from (Below.refl _ _).alloc (Nat.le_refl _) _)
  by_cases g1 : 8 < r.room.length
  · have e : chk r = 80 := by simp [chk, valid]; omega
    have HE := Lib.hid e; clear e
    go_enter Tryz.func36, Tryz.ntmps36
    go_wp2_with (first | (go_at_call 37; refine (containsRoom_any _ r.room _ (HR.out.below HB.out)).mono ?_; rintro e w1 ⟨rfl, hb⟩; have k0 := keep_cell hb k0; have k1 := keep_cell hb k1; have HB := Lib.hid (bto HB.out hb); clear hb) | (go_at_call 73; refine (containsStr_any _ r.strs r w.heap.size _ (HS.out.below HB.out) ⟨_, _, k0, k1, HR.out.below HB.out, HS.out.below HB.out⟩).mono ?_; rintro e w2 ⟨rfl, hb⟩; have k0 := keep_cell hb k0; have k1 := keep_cell hb k1; have HB := Lib.hid (bto HB.out hb); clear hb))
    go_ret
    exact ⟨by rw [HE.out]; rfl, HB.out⟩
  · cases g2 : r.room.any badRoom
    · by_cases g3 : 6 < r.strs.length
      · have e : chk r = 80 := by simp [chk, valid]; omega
        have HE := Lib.hid e; clear e
        go_enter Tryz.func36, Tryz.ntmps36
        go_wp2_with (first | (go_at_call 37; refine (containsRoom_any _ r.room _ (HR.out.below HB.out)).mono ?_; rintro e w1 ⟨rfl, hb⟩; have k0 := keep_cell hb k0; have k1 := keep_cell hb k1; have HB := Lib.hid (bto HB.out hb); clear hb) | (go_at_call 73; refine (containsStr_any _ r.strs r w.heap.size _ (HS.out.below HB.out) ⟨_, _, k0, k1, HR.out.below HB.out, HS.out.below HB.out⟩).mono ?_; rintro e w2 ⟨rfl, hb⟩; have k0 := keep_cell hb k0; have k1 := keep_cell hb k1; have HB := Lib.hid (bto HB.out hb); clear hb))
        go_ret
        exact ⟨by rw [HE.out]; rfl, HB.out⟩
      · cases g4 : r.strs.any (badStr r)
        · have e : chk r = 0 := by simp only [chk, valid, g2, g4]; rw [if_pos (by simp; omega)]
          have HE := Lib.hid e; clear e
          go_enter Tryz.func36, Tryz.ntmps36
          go_wp2_with (first | (go_at_call 37; refine (containsRoom_any _ r.room _ (HR.out.below HB.out)).mono ?_; rintro e w1 ⟨rfl, hb⟩; have k0 := keep_cell hb k0; have k1 := keep_cell hb k1; have HB := Lib.hid (bto HB.out hb); clear hb) | (go_at_call 73; refine (containsStr_any _ r.strs r w.heap.size _ (HS.out.below HB.out) ⟨_, _, k0, k1, HR.out.below HB.out, HS.out.below HB.out⟩).mono ?_; rintro e w2 ⟨rfl, hb⟩; have k0 := keep_cell hb k0; have k1 := keep_cell hb k1; have HB := Lib.hid (bto HB.out hb); clear hb))
          go_ret
          exact ⟨by rw [HE.out]; rfl, HB.out⟩
        · have e : chk r = 80 := by simp only [chk, valid, g2, g4]; rw [if_neg (by simp)]
          have HE := Lib.hid e; clear e
          go_enter Tryz.func36, Tryz.ntmps36
          go_wp2_with (first | (go_at_call 37; refine (containsRoom_any _ r.room _ (HR.out.below HB.out)).mono ?_; rintro e w1 ⟨rfl, hb⟩; have k0 := keep_cell hb k0; have k1 := keep_cell hb k1; have HB := Lib.hid (bto HB.out hb); clear hb) | (go_at_call 73; refine (containsStr_any _ r.strs r w.heap.size _ (HS.out.below HB.out) ⟨_, _, k0, k1, HR.out.below HB.out, HS.out.below HB.out⟩).mono ?_; rintro e w2 ⟨rfl, hb⟩; have k0 := keep_cell hb k0; have k1 := keep_cell hb k1; have HB := Lib.hid (bto HB.out hb); clear hb))
          go_ret
          exact ⟨by rw [HE.out]; rfl, HB.out⟩
    · have e : chk r = 80 := by simp only [chk, valid, g2]; rw [if_neg (by simp)]
      have HE := Lib.hid e; clear e
      go_enter Tryz.func36, Tryz.ntmps36
      go_wp2_with (first | (go_at_call 37; refine (containsRoom_any _ r.room _ (HR.out.below HB.out)).mono ?_; rintro e w1 ⟨rfl, hb⟩; have k0 := keep_cell hb k0; have k1 := keep_cell hb k1; have HB := Lib.hid (bto HB.out hb); clear hb) | (go_at_call 73; refine (containsStr_any _ r.strs r w.heap.size _ (HS.out.below HB.out) ⟨_, _, k0, k1, HR.out.below HB.out, HS.out.below HB.out⟩).mono ?_; rintro e w2 ⟨rfl, hb⟩; have k0 := keep_cell hb k0; have k1 := keep_cell hb k1; have HB := Lib.hid (bto HB.out hb); clear hb))
      go_ret
      exact ⟨by rw [HE.out]; rfl, HB.out⟩

set_option maxRecDepth 20000 in
set_option maxHeartbeats 2000000 in
theorem ask_any (v : Value) (r : Ros) (is : Bool) (w : World) (hv : RosAt w v r) :
    Calls Tryz.prog 52 #[v, .bool is] w fun e w' => e = .returned (I (askE r is)) ∧ Below w.heap.size w w' := by
  obtain ⟨rv, sv, rfl, hr, hs⟩ := hv
  have HR := Lib.hid hr
  have HS := Lib.hid hs
  clear hr hs
  have HB := Lib.hid (show Below w.heap.size w (w.alloc (.cells #[rv, sv] 25)) from (Below.refl _ _).alloc (Nat.le_refl _) _)
  cases h : valid r
  · have HC := Lib.hid (show chk r = 80 by simp [chk, h])
    have HE := Lib.hid (show askE r is = 80 by simp [askE, h])
    clear h
    go_enter Tryz.func52, Tryz.ntmps52
    go_wp2_with (go_at_call 36; refine (check_any _ r _ ⟨_, _, rfl, HR.out.below HB.out, HS.out.below HB.out⟩).mono ?_; rintro e w1 ⟨rfl, hb⟩; rw [HC.out]; have HB := Lib.hid (bto HB.out hb); clear hb)
    go_ret
    exact ⟨by rw [HE.out]; rfl, HB.out⟩
  · have HC := Lib.hid (show chk r = 0 by simp [chk, h])
    cases is
    · have HE := Lib.hid (show askE r false = 1 by simp [askE, h])
      clear h
      go_enter Tryz.func52, Tryz.ntmps52
      go_wp2_with (go_at_call 36; refine (check_any _ r _ ⟨_, _, rfl, HR.out.below HB.out, HS.out.below HB.out⟩).mono ?_; rintro e w1 ⟨rfl, hb⟩; rw [HC.out]; have HB := Lib.hid (bto HB.out hb); clear hb)
      go_ret
      exact ⟨by rw [HE.out]; rfl, HB.out⟩
    · have HE := Lib.hid (show askE r true = 0 by simp [askE, h])
      clear h
      go_enter Tryz.func52, Tryz.ntmps52
      go_wp2_with (go_at_call 36; refine (check_any _ r _ ⟨_, _, rfl, HR.out.below HB.out, HS.out.below HB.out⟩).mono ?_; rintro e w1 ⟨rfl, hb⟩; rw [HC.out]; have HB := Lib.hid (bto HB.out hb); clear hb)
      go_ret
      exact ⟨by rw [HE.out]; rfl, HB.out⟩

end Go.Proofs.YtldcehhhndlhdaaGreatDoor.Hr
/- Walks: move, steps, once, upTo; the reference's MoveOf. -/
namespace Go.Proofs.YtldcehhhndlhdaaGreatDoor.Hr
open Go.RowKit Go.Sort

/-- A street and an hour whose numbers are small. -/
structure Sml (s : Str) (h : Int) : Prop where
  has0 : -100 ≤ s.has
  has1 : s.has ≤ 100
  cost0 : 0 ≤ s.cost
  cost1 : s.cost ≤ 9
  h0 : -100 ≤ h
  h1 : h ≤ 100
theorem moveI_le {s : Str} {h : Int} (hs : Sml s h) : moveI s h ≤ 200 := by
  obtain ⟨a, b, c, d, e, f⟩ := hs
  unfold moveI; split <;> omega
theorem mul_bd' {a b : Int} (h1 : 0 ≤ a) (h2 : a ≤ 200) (h3 : 0 ≤ b) (h4 : b ≤ 9) : 0 ≤ a * b ∧ a * b ≤ 1800 := by
  refine ⟨Int.mul_nonneg h1 h3, ?_⟩
  have := Int.mul_le_mul h2 h4 h3 (by omega : (0:Int) ≤ 200)
  omega
theorem stepsI_bd {s : Str} {h : Int} (hs : Sml s h) : 0 ≤ stepsI s h ∧ stepsI s h ≤ 1800 := mul_bd' (moveI_nonneg s h) (moveI_le hs) hs.cost0 hs.cost1

set_option maxRecDepth 20000 in
set_option maxHeartbeats 1000000 in
theorem move_any (s : Str) (h : Int) (w : World) (hs : Sml s h) :
    Calls Tryz.prog 55 #[s.val, I h] w fun e w' => e = .returned (I (moveI s h)) ∧ Below w.heap.size w w' := by
  obtain ⟨a1, a2, -, -, a5, a6⟩ := hs
  by_cases h1 : s.has = -1
  · have h1' : (s.has == -1) = true := by simp [h1]
    have HE := Lib.hid (show moveI s h = 0 by simp [moveI, h1])
    clear h1
    go_enter Tryz.func55, Tryz.ntmps55
    go_wp2_with fail
    go_ret
    exact ⟨by rw [HE.out]; rfl, (Below.refl _ _).alloc (Nat.le_refl _) _⟩
  · have h1' : (s.has == -1) = false := by simp [h1]
    have HE := Lib.hid (show moveI s h = max (s.has - h) (h - s.has) by simp [moveI, h1])
    clear h1
    go_enter Tryz.func55, Tryz.ntmps55
    go_wp2_with fail
    go_ret
    exact ⟨by rw [HE.out]; rfl, (Below.refl _ _).alloc (Nat.le_refl _) _⟩

set_option maxRecDepth 20000 in
set_option maxHeartbeats 1000000 in
theorem steps_any (s : Str) (h : Int) (w : World) (hs : Sml s h) :
    Calls Tryz.prog 28 #[s.val, I h] w fun e w' => e = .returned (I (stepsI s h)) ∧ Below w.heap.size w w' := by
  have S := Lib.hid (show St w (w.alloc (.cells #[I s.has, I s.frm, I s.to, I s.cost] 53)) (w.heap.size + 1) [.box w.heap.size [I s.has, I s.frm, I s.to, I s.cost]] from (St.init w).alloc [I s.has, I s.frm, I s.to, I s.cost] 53)
  have hm := moveI_nonneg s h
  have hm' := moveI_le hs
  have i1 : IntKind.i64.wrap (moveI s h * s.cost) = moveI s h * s.cost := IntWalk.i64_in _ (by have := mul_bd' hm hm' hs.cost0 hs.cost1; omega)
  go_enter Tryz.func28, Tryz.ntmps28
  go_wp2_with fail
  refine wp_region_seg [([0, 1, 3, 4], 2)] [5, 6] [] 7 (by kernel_rfl) (by kernel_rfl) ?_
  intro KQ hKQ w1 hb
  have S := Lib.hid (S.out.call hb)
  clear hb
  have k0 := cell_regrown (S.out.get 0 0 rfl rfl)
  have k1 := cell_regrown (S.out.get 0 1 rfl rfl)
  have k2 := cell_regrown (S.out.get 0 2 rfl rfl)
  have k3 := cell_regrown (S.out.get 0 3 rfl rfl)
  refine seg_next ?_
  simp only [opsAt, List.filterMap_cons, List.filterMap_nil, List.getElem?_toArray, List.getElem?_cons_succ, List.getElem?_cons_zero]
  repeat (first | go_big_quiet_step (fail) | quiet_step (fail))
  refine wpQuiet_nil ?_
  intro K hK
  refine loud_op rfl rfl ?_
  go_simp
  refine (move_any s h _ hs).mono ?_
  rintro e w2 ⟨rfl, hb⟩
  have S := Lib.hid (S.out.call hb)
  refine hK _ _ hb ?_
  clear hK K hb k0 k1 k2 k3
  have k0 := cell_regrown (S.out.get 0 0 rfl rfl)
  have k1 := cell_regrown (S.out.get 0 1 rfl rfl)
  have k2 := cell_regrown (S.out.get 0 2 rfl rfl)
  have k3 := cell_regrown (S.out.get 0 3 rfl rfl)
  refine seg_last ?_
  simp only [opsAt, List.filterMap_cons, List.filterMap_nil, List.getElem?_toArray, List.getElem?_cons_succ, List.getElem?_cons_zero]
  repeat (first | go_big_quiet_step (fail) | quiet_step (fail))
  refine wpQuiet_nil ?_
  clear k0 k1 k2 k3
  go_wp2_with fail
  go_ret
  exact ⟨rfl, S.out.bel⟩

end Go.Proofs.YtldcehhhndlhdaaGreatDoor.Hr
/- The memo: a map from states to answers, of which it is known that what it holds is true. -/
namespace Go.Proofs.YtldcehhhndlhdaaGreatDoor.Hr
open Go.RowKit Go.Sort Go.WideMaps Go.MapKept

/-- A state's value: the next street, and what is left of the room. -/
def stV (k : Int) (left : List Int) : Value := .agg (I k :: left.map I).toArray
def ansV (a : Int × Int) : Value := .agg #[I a.1, I a.2]
def wfI (n : Int) : Bool := (Lit.int .i64 n).wf
theorem wfI_of {n : Int} (h1 : -9223372036854775808 ≤ n) (h2 : n ≤ 9223372036854775807) : wfI n = true := WalkArith.wf_i64 ⟨h1, h2⟩

theorem int_lits (d : Nat) (n : Int) (h : wfI n = true) : Tryz.prog.keyLits (d + 1) 3 [I n] = some [.int .i64 n] := by
  have h' : (Lit.int .i64 n).wf = true := h
  simp [Program.keyLits, Tryz.underlying3, h']
theorem arr_lits (d : Nat) (a b c e f g h i : Int) (w0 : wfI a = true) (w1 : wfI b = true) (w2 : wfI c = true) (w3 : wfI e = true) (w4 : wfI f = true) (w5 : wfI g = true) (w6 : wfI h = true) (w7 : wfI i = true) :
    Tryz.prog.keyLits (d + 2) 85 [I a, I b, I c, I e, I f, I g, I h, I i] = some [.int .i64 a, .int .i64 b, .int .i64 c, .int .i64 e, .int .i64 f, .int .i64 g, .int .i64 h, .int .i64 i] := by
  have hc : Tryz.prog.cellsOf 85 = 8 := by kernel_rfl
  have h1 : Tryz.prog.cellsOf 3 = 1 := by kernel_rfl
  unfold Program.keyLits
  simp only [Tryz.underlying85, hc, h1]
  rw [if_pos (by rfl)]
  simp [List.range, List.range.loop, int_lits d, w0, w1, w2, w3, w4, w5, w6, w7]
theorem key_ok (k a b c e f g h i : Int) (wk : wfI k = true) (w0 : wfI a = true) (w1 : wfI b = true) (w2 : wfI c = true) (w3 : wfI e = true) (w4 : wfI f = true) (w5 : wfI g = true) (w6 : wfI h = true) (w7 : wfI i = true) :
    ∃ l, keyOf Tryz.prog 87 (stV k [a, b, c, e, f, g, h, i]) = some l := by
  have hc : Tryz.prog.cellsOf 87 = 9 := by kernel_rfl
  have hc8 : Tryz.prog.cellsOf 85 = 8 := by kernel_rfl
  have h1 : Tryz.prog.cellsOf 3 = 1 := by kernel_rfl
  have hkt : Tryz.prog.keyType 87 = true := by kernel_rfl
  have hfm : (stV k [a, b, c, e, f, g, h, i]).formed Tryz.prog 87 = true := by
    simp only [stV, Value.formed, Tryz.underlying87, hc]
    rfl
  obtain ⟨d, hd⟩ : ∃ d, Tryz.prog.types.size = d + 2 := ⟨Tryz.prog.types.size - 2, by have : 2 ≤ Tryz.prog.types.size := of_decide_eq_true (by kernel_rfl); omega⟩
  unfold keyOf
  simp only [Tryz.underlying87, hkt, hfm, Bool.and_self, if_true, hd]
  unfold Program.keyLits
  simp only [Tryz.underlying87, hc, stV, Value.cells]
  rw [if_pos ⟨by rfl, by decide +kernel⟩]
  simp [hc8, h1, int_lits, arr_lits, wk, w0, w1, w2, w3, w4, w5, w6, w7]
theorem Tryz.laidOut' : laidOutB Tryz.prog = true := by kernel_rfl
theorem stLaw : KeyLaw Tryz.prog 87 :=
  deep_law_laid Tryz.laidOut' (m := 5) (by omega) (of_decide_eq_true (by kernel_rfl)) (by kernel_rfl) (by rw [Tryz.underlying87])

/-- The numbers of a state are small, and there are eight of them. -/
structure StOk (k : Int) (left : List Int) : Prop where
  len : left.length = 8
  k0 : 0 ≤ k
  k1 : k ≤ 100
  lo : ∀ x ∈ left, -100 ≤ x ∧ x ≤ 100
theorem StOk.key {k : Int} {left : List Int} (h : StOk k left) : ∃ l, keyOf Tryz.prog 87 (stV k left) = some l := by
  obtain ⟨hl, h0, h1, hb⟩ := h
  match left, hl, hb with
  | [a, b, c, d, e, f, g, i], _, hb =>
    have w : ∀ x ∈ [a, b, c, d, e, f, g, i], wfI x = true := fun x hx => by have := hb x hx; exact wfI_of (by omega) (by omega)
    exact key_ok k a b c d e f g i (wfI_of (by omega) (by omega)) (w _ (by simp)) (w _ (by simp)) (w _ (by simp)) (w _ (by simp)) (w _ (by simp)) (w _ (by simp)) (w _ (by simp)) (w _ (by simp))
theorem stV_inj {k k' : Int} {l l' : List Int} (h : stV k l = stV k' l') : k = k' ∧ l = l' := by
  simp only [stV, Value.agg.injEq] at h
  have h := congrArg Array.toList h
  simp only [List.cons.injEq, Value.int.injEq, true_and] at h
  exact ⟨h.1, (List.map_inj_right (f := I) (fun x y hxy => by simpa [I] using hxy)).1 h.2⟩

/-- What a memo may hold: answers of an oracle. -/
def MemoP (orc : Nat → List Int → Int × Int) (o : Obj) : Prop := ∃ es clock, o = .map es clock ∧ ∀ e ∈ es.toList, ∃ (k : Nat) (left : List Int), StOk k left ∧ e.key = stV k left ∧ e.val = ansV (orc k left)
theorem MemoP.new (orc : Nat → List Int → Int × Int) : MemoP orc (.map #[] 0) := ⟨_, _, rfl, by simp⟩

/-- A lookup in a memo: what the oracle says, or nothing. -/
theorem run_lookup_memo {orc : Nat → List Int → Int × Int} {m : Nat} {o : Obj} (hp : MemoP orc o) {k : Nat} {left : List Int} (hk : StOk k left) :
    (∀ w : World, w.heap[m]? = some o → (Instr.lookup 89 (.map (some m)) (stV k left) true).run Tryz.prog w = .ok (.tuple #[ansV (orc k left), .bool true]) w) ∨
    (∀ w : World, w.heap[m]? = some o → (Instr.lookup 89 (.map (some m)) (stV k left) true).run Tryz.prog w = .ok (.tuple #[.agg #[I 0, I 0], .bool false]) w) := by
  obtain ⟨es, clock, rfl, hes⟩ := hp
  obtain ⟨l, hl⟩ := hk.key
  have hall : ∀ e ∈ es.toList, ∃ l, keyOf Tryz.prog 87 e.key = some l := fun e he => by
    obtain ⟨k', left', h1, h2, _⟩ := hes e he
    rw [h2]; exact h1.key
  by_cases hex : ∃ e ∈ es.toList, e.key = stV k left
  · refine .inl fun w hm => ?_
    have hck := stLaw.check w es.isEmpty hl
    rcases stLaw.find w hl es.toList hall with ⟨_, hno⟩ | ⟨j, e, hf, hj, he⟩
    · obtain ⟨e, he, hk⟩ := hex
      exact absurd hk (hno e he)
    · obtain ⟨k', left', h1, h2, h3⟩ := hes e (List.mem_of_getElem? hj)
      rw [h2] at he
      obtain ⟨e1, e2⟩ := stV_inj he
      have e1 : k' = k := by omega
      subst e1 e2
      simp [Instr.lookup, run_underlying Tryz.underlying89, Go.MapKept.run_getObj_map hm, hck, hf, h3]
  · refine .inr fun w hm => ?_
    have hck := stLaw.check w es.isEmpty hl
    rcases stLaw.find w hl es.toList hall with ⟨hf, _⟩ | ⟨j, e, hf, hj, he⟩
    · simp [Instr.lookup, run_underlying Tryz.underlying89, Go.MapKept.run_getObj_map hm, hck, hf]
    · exact absurd ⟨e, List.mem_of_getElem? hj, he⟩ hex

/-- A store into a memo of what the oracle says. -/
theorem run_update_memo {w : World} {orc : Nat → List Int → Int × Int} {m : Nat} {o : Obj} (hm : w.heap[m]? = some o) (hp : MemoP orc o) {k : Nat} {left : List Int} (hk : StOk k left) :
    ∃ w' o', (Instr.mapUpdate 89 (.map (some m)) (stV k left) (ansV (orc k left))).run Tryz.prog w = .ok () w' ∧ w'.heap[m]? = some o' ∧ MemoP orc o' ∧ w.grownBy w' (some m) ∧ w'.heap.size = w.heap.size := by
  obtain ⟨es, clock, rfl, hes⟩ := hp
  obtain ⟨l, hl⟩ := hk.key
  have hck := stLaw.check w false hl
  have hall : ∀ e ∈ es.toList, ∃ l, keyOf Tryz.prog 87 e.key = some l := fun e he => by
    obtain ⟨k', left', h1, h2, _⟩ := hes e he
    rw [h2]; exact h1.key
  have hlt := lt_of_block hm
  have hset : ∀ o' : Obj, (setObj m o').run Tryz.prog w = .ok () { w with heap := w.heap.setIfInBounds m o' } := fun o' => Go.MapKept.run_setObj_map o' hm
  have hgrow : ∀ o' : Obj, w.grownBy { w with heap := w.heap.setIfInBounds m o' } (some m) := fun o' => ⟨rfl, rfl, rfl, by simp, fun q _ hq => by
    show (w.heap.setIfInBounds m o')[q]? = _
    rw [Array.getElem?_setIfInBounds_ne (fun e => hq (by rw [e]))]⟩
  have hat : ∀ o' : Obj, (w.heap.setIfInBounds m o')[m]? = some o' := fun o' => by simp [hlt]
  rcases stLaw.find w hl es.toList hall with ⟨hf, _⟩ | ⟨j, e, hf, hj, he⟩
  · refine ⟨_, .map (es.push { key := stV k left, val := ansV (orc k left), born := clock }) (clock + 1), ?_, hat _, ⟨_, _, rfl, fun e he => ?_⟩, hgrow _, by simp⟩
    · simp [Instr.mapUpdate, run_underlying Tryz.underlying89, Go.MapKept.run_getObj_map hm, hck, hf, hset]
    · rw [Array.toList_push] at he
      rcases List.mem_append.1 he with he | he
      · exact hes e he
      · have := List.mem_singleton.1 he
        subst this
        exact ⟨k, left, hk, rfl, rfl⟩
  · have hst := stLaw.stays w hl
    have hkey : (es[j]?.map (·.key)).getD (stV k left) = stV k left := by
      have : es[j]? = some e := by simpa using hj
      rw [this]; simpa using he
    refine ⟨_, .map (es.modify j fun e => { e with key := stV k left, val := ansV (orc k left) }) clock, ?_, hat _, ⟨_, _, rfl, fun x hx => ?_⟩, hgrow _, by simp⟩
    · simp [Instr.mapUpdate, run_underlying Tryz.underlying89, Go.MapKept.run_getObj_map hm, hck, hf, hkey, hst, hset]
    · rw [Array.mem_toList_iff, Array.mem_iff_getElem?] at hx
      obtain ⟨i, hi⟩ := hx
      rw [Array.getElem?_modify] at hi
      split at hi
      · cases hei : es[i]? with
        | none => rw [hei] at hi; simp at hi
        | some y =>
          rw [hei] at hi
          simp at hi
          subst hi
          exact ⟨k, left, hk, rfl, rfl⟩
      · exact hes x (by rw [Array.mem_toList_iff]; exact Array.mem_of_getElem? hi)
theorem wpList_update_memo {ops : Array Oper} {rest : List Oper} {o : Oper} {a : Act} {w : World} {Q : Exit → Act → World → Prop} (hg : o.guard = none) (mm x v : Operand) (hop : o.op = Op.mapUpdate 89 mm x v)
    {orc : Nat → List Int → Int × Int} {m : Nat} {ob : Obj} {k : Nat} {left : List Int} (hm : a.eval mm = .map (some m)) (hx : a.eval x = stV k left) (hv : a.eval v = ansV (orc k left)) (ho : w.heap[m]? = some ob) (hp : MemoP orc ob) (hk : StOk k left)
    (hK : ∀ w' ob', w'.heap[m]? = some ob' → MemoP orc ob' → w.grownBy w' (some m) → wpList Tryz.prog ops Q rest (a.put o.dst undef) w') : wpList Tryz.prog ops Q (o :: rest) a w := by
  refine wpList_plain hg fun K' hK' => ?_
  obtain ⟨w', ob', hrun, r1, r2, r3, _⟩ := run_update_memo ho hp hk
  unfold Oper.wp
  simp [execOp, hop, hm, hx, hv, hrun, Result.andThen]
  exact hK' _ _ (hK w' ob' r1 r2 r3)
/-- A cell of a state's box: what is left of an hour. -/
theorem st_cell {k : Int} {left : List Int} (h : Nat) (hl : h < left.length) : (I k :: left.map I)[1 + h]? = some (I (at_ left h)) := by
  rw [Nat.add_comm, List.getElem?_cons_succ, List.getElem?_map, List.getElem?_eq_getElem hl]
  simp [at_, List.getD_eq_getElem?_getD, List.getElem?_eq_getElem hl]
end Go.Proofs.YtldcehhhndlhdaaGreatDoor.Hr
/- Walks: with, hire. -/
namespace Go.Proofs.YtldcehhhndlhdaaGreatDoor.Hr
open Go.RowKit Go.Sort

set_option maxRecDepth 20000 in
set_option maxHeartbeats 4000000 in
theorem with_any (k h : Int) (left : List Int) (w : World) (hk : StOk k left) (hh0 : 0 ≤ h) (hh1 : h ≤ 7) :
    Calls Tryz.prog 58 #[stV k left, I h] w fun e w' => e = .returned (stV (k + 1) (dec left h)) ∧ Below w.heap.size w w' := by
  obtain ⟨hlen, h0, h1, hb⟩ := hk
  match left, hlen, hb with
  | [a, b, c, d, e, f, g, i], _, hb =>
    have ba := hb a (by simp)
    have bb := hb b (by simp)
    have bc := hb c (by simp)
    have bd := hb d (by simp)
    have be := hb e (by simp)
    have bf := hb f (by simp)
    have bg := hb g (by simp)
    have bi := hb i (by simp)
    clear hb
    have hc : h = 0 ∨ h = 1 ∨ h = 2 ∨ h = 3 ∨ h = 4 ∨ h = 5 ∨ h = 6 ∨ h = 7 := by omega
    rcases hc with rfl | rfl | rfl | rfl | rfl | rfl | rfl | rfl
    · show Calls Tryz.prog 58 #[.agg #[I k, I a, I b, I c, I d, I e, I f, I g, I i], I 0] w _
      go_enter Tryz.func58, Tryz.ntmps58
      go_wp2_with fail
      refine bodyPost_ret (v := .agg #[I (k + 1), I (a - 1), I b, I c, I d, I e, I f, I g, I i]) (by simp [results, Tryz.results58, go_sem]) rfl ⟨rfl, ?_⟩
      repeat (first | exact Below.refl _ _ | refine Below.setCell ?_ (by simp) _ | refine Below.alloc ?_ (by simp) _)
    · show Calls Tryz.prog 58 #[.agg #[I k, I a, I b, I c, I d, I e, I f, I g, I i], I 1] w _
      go_enter Tryz.func58, Tryz.ntmps58
      go_wp2_with fail
      refine bodyPost_ret (v := .agg #[I (k + 1), I a, I (b - 1), I c, I d, I e, I f, I g, I i]) (by simp [results, Tryz.results58, go_sem]) rfl ⟨rfl, ?_⟩
      repeat (first | exact Below.refl _ _ | refine Below.setCell ?_ (by simp) _ | refine Below.alloc ?_ (by simp) _)
    · show Calls Tryz.prog 58 #[.agg #[I k, I a, I b, I c, I d, I e, I f, I g, I i], I 2] w _
      go_enter Tryz.func58, Tryz.ntmps58
      go_wp2_with fail
      refine bodyPost_ret (v := .agg #[I (k + 1), I a, I b, I (c - 1), I d, I e, I f, I g, I i]) (by simp [results, Tryz.results58, go_sem]) rfl ⟨rfl, ?_⟩
      repeat (first | exact Below.refl _ _ | refine Below.setCell ?_ (by simp) _ | refine Below.alloc ?_ (by simp) _)
    · show Calls Tryz.prog 58 #[.agg #[I k, I a, I b, I c, I d, I e, I f, I g, I i], I 3] w _
      go_enter Tryz.func58, Tryz.ntmps58
      go_wp2_with fail
      refine bodyPost_ret (v := .agg #[I (k + 1), I a, I b, I c, I (d - 1), I e, I f, I g, I i]) (by simp [results, Tryz.results58, go_sem]) rfl ⟨rfl, ?_⟩
      repeat (first | exact Below.refl _ _ | refine Below.setCell ?_ (by simp) _ | refine Below.alloc ?_ (by simp) _)
    · show Calls Tryz.prog 58 #[.agg #[I k, I a, I b, I c, I d, I e, I f, I g, I i], I 4] w _
      go_enter Tryz.func58, Tryz.ntmps58
      go_wp2_with fail
      refine bodyPost_ret (v := .agg #[I (k + 1), I a, I b, I c, I d, I (e - 1), I f, I g, I i]) (by simp [results, Tryz.results58, go_sem]) rfl ⟨rfl, ?_⟩
      repeat (first | exact Below.refl _ _ | refine Below.setCell ?_ (by simp) _ | refine Below.alloc ?_ (by simp) _)
    · show Calls Tryz.prog 58 #[.agg #[I k, I a, I b, I c, I d, I e, I f, I g, I i], I 5] w _
      go_enter Tryz.func58, Tryz.ntmps58
      go_wp2_with fail
      refine bodyPost_ret (v := .agg #[I (k + 1), I a, I b, I c, I d, I e, I (f - 1), I g, I i]) (by simp [results, Tryz.results58, go_sem]) rfl ⟨rfl, ?_⟩
      repeat (first | exact Below.refl _ _ | refine Below.setCell ?_ (by simp) _ | refine Below.alloc ?_ (by simp) _)
    · show Calls Tryz.prog 58 #[.agg #[I k, I a, I b, I c, I d, I e, I f, I g, I i], I 6] w _
      go_enter Tryz.func58, Tryz.ntmps58
      go_wp2_with fail
      refine bodyPost_ret (v := .agg #[I (k + 1), I a, I b, I c, I d, I e, I f, I (g - 1), I i]) (by simp [results, Tryz.results58, go_sem]) rfl ⟨rfl, ?_⟩
      repeat (first | exact Below.refl _ _ | refine Below.setCell ?_ (by simp) _ | refine Below.alloc ?_ (by simp) _)
    · show Calls Tryz.prog 58 #[.agg #[I k, I a, I b, I c, I d, I e, I f, I g, I i], I 7] w _
      go_enter Tryz.func58, Tryz.ntmps58
      go_wp2_with fail
      refine bodyPost_ret (v := .agg #[I (k + 1), I a, I b, I c, I d, I e, I f, I g, I (i - 1)]) (by simp [results, Tryz.results58, go_sem]) rfl ⟨rfl, ?_⟩
      repeat (first | exact Below.refl _ _ | refine Below.setCell ?_ (by simp) _ | refine Below.alloc ?_ (by simp) _)

set_option maxRecDepth 20000 in
set_option maxHeartbeats 1000000 in
theorem hire_any (v : Value) (g : Fn) (l1 l2 : Array Value) (r : Ros) (orc : Nat → List Int → Int × Int) (w : World) (hv : RosAt w v r) :
    Calls Tryz.prog 53 #[v, .func g l1 l2] w fun e w' => ∃ c m rv sv, v = .agg #[rv, sv] ∧ e = .returned (.pointer (some ⟨c, 0, none⟩)) ∧ St w w' w'.heap.size [.box c [rv, sv, .func g l1 l2, .map (some m)], .any m (MemoP orc)] := by
  obtain ⟨rv, sv, rfl, hr, hs⟩ := hv
  obtain ⟨A, c, rfl, h1, h2, -⟩ := hr.open_
  obtain ⟨A', c', rfl, h3, h4, -⟩ := hs.open_
  clear hr hs
  have hmm := @run_makeMap Tryz.prog
  go_enter Tryz.func53, Tryz.ntmps53
  go_wp2_with fail
  go_ret
  refine ⟨w.heap.size + 2, w.heap.size + 1, _, _, rfl, rfl, ?_⟩
  have S := (((St.init w).alloc' (.cells #[.slice A r.room.length c, .slice A' r.strs.length c'] 25)).allocO (.map #[] 0) (MemoP orc) (MemoP.new orc)).alloc [.slice A r.room.length c, .slice A' r.strs.length c', .func g l1 l2, .map (some (w.heap.size + 1))] 91
  exact S.call (Below.refl _ _)

end Go.Proofs.YtldcehhhndlhdaaGreatDoor.Hr
