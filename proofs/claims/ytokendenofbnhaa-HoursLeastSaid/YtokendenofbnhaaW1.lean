/- Walks: within, isHour, isStreet, Check and what it calls, ask. -/
import Derived.Test.YtokendenofbnhaaBase
namespace Go.Proofs.Ytokendenofbnhaa
open Go.RowKit Go.Sort

set_option maxRecDepth 20000 in
set_option maxHeartbeats 400000 in
theorem within_any (n lo hi : Int) (w : World) :
    Calls Try.prog 85 #[I n, I lo, I hi] w fun e w' => e = .returned (.bool (inR n lo hi)) ∧ w = w' := by
  by_cases h1 : lo ≤ n
  · by_cases h2 : n ≤ hi
    · go_enter Try.func85, Try.ntmps85
      go_wp2
      go_ret
      exact ⟨by simp [inR, *], rfl⟩
    · go_enter Try.func85, Try.ntmps85
      go_wp2
      go_ret
      exact ⟨by simp [inR, *], rfl⟩
  · go_enter Try.func85, Try.ntmps85
    go_wp2
    go_ret
    exact ⟨by simp [inR]; omega, rfl⟩

set_option maxRecDepth 20000 in
set_option maxHeartbeats 1000000 in
theorem isHour_any (v : Value) (r : Ros) (n : Int) (w : World) (hv : RosAt w v r) :
    Calls Try.prog 71 #[v, I n] w fun e w' => e = .returned (.bool (isHour r n)) ∧ Below w.heap.size w w' := by
  obtain ⟨rv, sv, rfl, hr, hs⟩ := hv
  obtain ⟨A, c, rfl, h1, h2, -⟩ := hr.open_
  obtain ⟨A', c', rfl, h3, h4, -⟩ := hs.open_
  clear hr hs
  go_enter Try.func71, Try.ntmps71
  go_wp2_with (go_at_call 85; refine (within_any _ _ _ _).mono ?_; rintro e w' ⟨rfl, rfl⟩)
  go_ret
  exact ⟨rfl, (Below.refl _ _).alloc (Nat.le_refl _) _⟩

set_option maxRecDepth 20000 in
set_option maxHeartbeats 1000000 in
theorem isStreet_any (v : Value) (r : Ros) (n : Int) (w : World) (hv : RosAt w v r) :
    Calls Try.prog 74 #[v, I n] w fun e w' => e = .returned (.bool (isStreet r n)) ∧ Below w.heap.size w w' := by
  obtain ⟨rv, sv, rfl, hr, hs⟩ := hv
  obtain ⟨A, c, rfl, h1, h2, -⟩ := hr.open_
  obtain ⟨A', c', rfl, h3, h4, -⟩ := hs.open_
  clear hr hs
  go_enter Try.func74, Try.ntmps74
  go_wp2_with (go_at_call 85; refine (within_any _ _ _ _).mono ?_; rintro e w' ⟨rfl, rfl⟩)
  go_ret
  exact ⟨rfl, (Below.refl _ _).alloc (Nat.le_refl _) _⟩

set_option maxRecDepth 20000 in
set_option maxHeartbeats 400000 in
theorem badRoom_any (n : Int) (w : World) :
    Calls Try.prog 84 #[I n] w fun e w' => e = .returned (.bool (badRoom n)) ∧ w = w' := by
  go_enter Try.func84, Try.ntmps84
  go_wp2_with (go_at_call 85; refine (within_any _ _ _ _).mono ?_; rintro e w' ⟨rfl, rfl⟩)
  go_ret
  exact ⟨rfl, rfl⟩

/-- What is in the box that the closure has of the roster. -/
def BoxAt (w : World) (b : Nat) (r : Ros) : Prop := ∃ rv sv, w.cell? ⟨b, 0, none⟩ = some rv ∧ w.cell? ⟨b, 1, none⟩ = some sv ∧ Ints w rv r.room ∧ Strs w sv r.strs
theorem BoxAt.below {w w' : World} {b : Nat} {r : Ros} (h : BoxAt w b r) (hb : Below w.heap.size w w') : BoxAt w' b r := by
  obtain ⟨rv, sv, h1, h2, h3, h4⟩ := h
  exact ⟨rv, sv, keep_cell hb h1, keep_cell hb h2, h3.below hb, h4.below hb⟩

set_option maxRecDepth 20000 in
set_option maxHeartbeats 4000000 in
theorem badStr_any (r : Ros) (s : Str) (b : Nat) (w : World) (hx : BoxAt w b r) :
    Calls Try.prog 86 #[.agg #[I s.has, I s.frm, I s.to, I s.cost], .pointer (some ⟨b, 0, none⟩)] w fun e w' => e = .returned (.bool (badStr r s)) ∧ Below w.heap.size w w' := by
  obtain ⟨rv, sv, k0, k1, hr, hs⟩ := hx
  have HR := Lib.hid hr
  have HS := Lib.hid hs
  clear hr hs
  have hlt := World.block_lt_of_cell? w _ k0
  have x0 := box_cell w #[I s.has, I s.frm, I s.to, I s.cost] 33 0 rfl
  have x1 := box_cell w #[I s.has, I s.frm, I s.to, I s.cost] 33 1 rfl
  have x2 := box_cell w #[I s.has, I s.frm, I s.to, I s.cost] 33 2 rfl
  have x3 := box_cell w #[I s.has, I s.frm, I s.to, I s.cost] 33 3 rfl
  have k0 := box_old w (.cells #[I s.has, I s.frm, I s.to, I s.cost] 33) k0
  have k1 := box_old w (.cells #[I s.has, I s.frm, I s.to, I s.cost] 33) k1
  have HB := Lib.hid (show Below w.heap.size w (w.alloc (.cells #[I s.has, I s.frm, I s.to, I s.cost] 33)) from (Below.refl _ _).alloc (Nat.le_refl _) _)
  by_cases h1 : s.has = -1
  · have h1' : (s.has != -1) = false := by simp [h1]
    have H1 := Lib.hid h1
    clear h1
    cases h3 : isHour r s.frm
    · go_enter Try.func86, Try.ntmps86
      go_wp2_with (first | (go_at_call 71; refine (isHour_any _ r _ _ ⟨_, _, rfl, HR.out.below HB.out, HS.out.below HB.out⟩).mono ?_; rintro e w1 ⟨rfl, hb⟩; have x0 := keep_cell hb x0; have x1 := keep_cell hb x1; have x2 := keep_cell hb x2; have x3 := keep_cell hb x3; have k0 := keep_cell hb k0; have k1 := keep_cell hb k1; have HB := Lib.hid (bto HB.out hb); clear hb) | (go_at_call 85; refine (within_any _ _ _ _).mono ?_; rintro e w' ⟨rfl, rfl⟩))
      go_ret
      have hh := H1.out
      exact ⟨by simp [badStr, *], HB.out⟩
    · cases h4 : isHour r s.to
      · go_enter Try.func86, Try.ntmps86
        go_wp2_with (first | (go_at_call 71; refine (isHour_any _ r _ _ ⟨_, _, rfl, HR.out.below HB.out, HS.out.below HB.out⟩).mono ?_; rintro e w1 ⟨rfl, hb⟩; have x0 := keep_cell hb x0; have x1 := keep_cell hb x1; have x2 := keep_cell hb x2; have x3 := keep_cell hb x3; have k0 := keep_cell hb k0; have k1 := keep_cell hb k1; have HB := Lib.hid (bto HB.out hb); clear hb) | (go_at_call 85; refine (within_any _ _ _ _).mono ?_; rintro e w' ⟨rfl, rfl⟩))
        go_ret
        have hh := H1.out
        exact ⟨by simp [badStr, *], HB.out⟩
      · cases h5 : decide (s.to < s.frm)
        · cases h6 : inR s.cost 0 9
          · go_enter Try.func86, Try.ntmps86
            go_wp2_with (first | (go_at_call 71; refine (isHour_any _ r _ _ ⟨_, _, rfl, HR.out.below HB.out, HS.out.below HB.out⟩).mono ?_; rintro e w1 ⟨rfl, hb⟩; have x0 := keep_cell hb x0; have x1 := keep_cell hb x1; have x2 := keep_cell hb x2; have x3 := keep_cell hb x3; have k0 := keep_cell hb k0; have k1 := keep_cell hb k1; have HB := Lib.hid (bto HB.out hb); clear hb) | (go_at_call 85; refine (within_any _ _ _ _).mono ?_; rintro e w' ⟨rfl, rfl⟩))
            go_ret
            have hh := H1.out
            exact ⟨by simp [badStr, *], HB.out⟩
          · go_enter Try.func86, Try.ntmps86
            go_wp2_with (first | (go_at_call 71; refine (isHour_any _ r _ _ ⟨_, _, rfl, HR.out.below HB.out, HS.out.below HB.out⟩).mono ?_; rintro e w1 ⟨rfl, hb⟩; have x0 := keep_cell hb x0; have x1 := keep_cell hb x1; have x2 := keep_cell hb x2; have x3 := keep_cell hb x3; have k0 := keep_cell hb k0; have k1 := keep_cell hb k1; have HB := Lib.hid (bto HB.out hb); clear hb) | (go_at_call 85; refine (within_any _ _ _ _).mono ?_; rintro e w' ⟨rfl, rfl⟩))
            go_ret
            have hh := H1.out
            exact ⟨by simp [badStr, *], HB.out⟩
        · go_enter Try.func86, Try.ntmps86
          go_wp2_with (first | (go_at_call 71; refine (isHour_any _ r _ _ ⟨_, _, rfl, HR.out.below HB.out, HS.out.below HB.out⟩).mono ?_; rintro e w1 ⟨rfl, hb⟩; have x0 := keep_cell hb x0; have x1 := keep_cell hb x1; have x2 := keep_cell hb x2; have x3 := keep_cell hb x3; have k0 := keep_cell hb k0; have k1 := keep_cell hb k1; have HB := Lib.hid (bto HB.out hb); clear hb) | (go_at_call 85; refine (within_any _ _ _ _).mono ?_; rintro e w' ⟨rfl, rfl⟩))
          go_ret
          have hh := H1.out
          exact ⟨by simp [badStr, *], HB.out⟩
  · have h1' : (s.has != -1) = true := by simp [h1]
    have H1 := Lib.hid h1
    clear h1
    cases h2 : isHour r s.has
    · go_enter Try.func86, Try.ntmps86
      go_wp2_with (first | (go_at_call 71; refine (isHour_any _ r _ _ ⟨_, _, rfl, HR.out.below HB.out, HS.out.below HB.out⟩).mono ?_; rintro e w1 ⟨rfl, hb⟩; have x0 := keep_cell hb x0; have x1 := keep_cell hb x1; have x2 := keep_cell hb x2; have x3 := keep_cell hb x3; have k0 := keep_cell hb k0; have k1 := keep_cell hb k1; have HB := Lib.hid (bto HB.out hb); clear hb) | (go_at_call 85; refine (within_any _ _ _ _).mono ?_; rintro e w' ⟨rfl, rfl⟩))
      go_ret
      have hh := H1.out
      exact ⟨by simp [badStr, *], HB.out⟩
    · cases h3 : isHour r s.frm
      · go_enter Try.func86, Try.ntmps86
        go_wp2_with (first | (go_at_call 71; refine (isHour_any _ r _ _ ⟨_, _, rfl, HR.out.below HB.out, HS.out.below HB.out⟩).mono ?_; rintro e w1 ⟨rfl, hb⟩; have x0 := keep_cell hb x0; have x1 := keep_cell hb x1; have x2 := keep_cell hb x2; have x3 := keep_cell hb x3; have k0 := keep_cell hb k0; have k1 := keep_cell hb k1; have HB := Lib.hid (bto HB.out hb); clear hb) | (go_at_call 85; refine (within_any _ _ _ _).mono ?_; rintro e w' ⟨rfl, rfl⟩))
        go_ret
        have hh := H1.out
        exact ⟨by simp [badStr, *], HB.out⟩
      · cases h4 : isHour r s.to
        · go_enter Try.func86, Try.ntmps86
          go_wp2_with (first | (go_at_call 71; refine (isHour_any _ r _ _ ⟨_, _, rfl, HR.out.below HB.out, HS.out.below HB.out⟩).mono ?_; rintro e w1 ⟨rfl, hb⟩; have x0 := keep_cell hb x0; have x1 := keep_cell hb x1; have x2 := keep_cell hb x2; have x3 := keep_cell hb x3; have k0 := keep_cell hb k0; have k1 := keep_cell hb k1; have HB := Lib.hid (bto HB.out hb); clear hb) | (go_at_call 85; refine (within_any _ _ _ _).mono ?_; rintro e w' ⟨rfl, rfl⟩))
          go_ret
          have hh := H1.out
          exact ⟨by simp [badStr, *], HB.out⟩
        · cases h5 : decide (s.to < s.frm)
          · cases h6 : inR s.cost 0 9
            · go_enter Try.func86, Try.ntmps86
              go_wp2_with (first | (go_at_call 71; refine (isHour_any _ r _ _ ⟨_, _, rfl, HR.out.below HB.out, HS.out.below HB.out⟩).mono ?_; rintro e w1 ⟨rfl, hb⟩; have x0 := keep_cell hb x0; have x1 := keep_cell hb x1; have x2 := keep_cell hb x2; have x3 := keep_cell hb x3; have k0 := keep_cell hb k0; have k1 := keep_cell hb k1; have HB := Lib.hid (bto HB.out hb); clear hb) | (go_at_call 85; refine (within_any _ _ _ _).mono ?_; rintro e w' ⟨rfl, rfl⟩))
              go_ret
              have hh := H1.out
              exact ⟨by simp [badStr, *], HB.out⟩
            · go_enter Try.func86, Try.ntmps86
              go_wp2_with (first | (go_at_call 71; refine (isHour_any _ r _ _ ⟨_, _, rfl, HR.out.below HB.out, HS.out.below HB.out⟩).mono ?_; rintro e w1 ⟨rfl, hb⟩; have x0 := keep_cell hb x0; have x1 := keep_cell hb x1; have x2 := keep_cell hb x2; have x3 := keep_cell hb x3; have k0 := keep_cell hb k0; have k1 := keep_cell hb k1; have HB := Lib.hid (bto HB.out hb); clear hb) | (go_at_call 85; refine (within_any _ _ _ _).mono ?_; rintro e w' ⟨rfl, rfl⟩))
              go_ret
              have hh := H1.out
              exact ⟨by simp [badStr, *], HB.out⟩
          · go_enter Try.func86, Try.ntmps86
            go_wp2_with (first | (go_at_call 71; refine (isHour_any _ r _ _ ⟨_, _, rfl, HR.out.below HB.out, HS.out.below HB.out⟩).mono ?_; rintro e w1 ⟨rfl, hb⟩; have x0 := keep_cell hb x0; have x1 := keep_cell hb x1; have x2 := keep_cell hb x2; have x3 := keep_cell hb x3; have k0 := keep_cell hb k0; have k1 := keep_cell hb k1; have HB := Lib.hid (bto HB.out hb); clear hb) | (go_at_call 85; refine (within_any _ _ _ _).mono ?_; rintro e w' ⟨rfl, rfl⟩))
            go_ret
            have hh := H1.out
            exact ⟨by simp [badStr, *], HB.out⟩

end Go.Proofs.Ytokendenofbnhaa
