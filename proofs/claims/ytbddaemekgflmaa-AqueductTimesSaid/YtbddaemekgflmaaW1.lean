/- Walks of the smallest functions of the program: within, Check and what it calls, ask, areStretches, isStretch, isPoint, odds. -/
import Derived.Test.YtbddaemekgflmaaBase
namespace Go.Proofs.Ytbddaemekgflmaa
open Go.RowKit

set_option maxHeartbeats 400000 in
theorem within_any (n lo hi : Int) (w : World) :
    Calls Try.prog 70 #[I n, I lo, I hi] w fun e w' => e = .returned (.bool (inR n lo hi)) ∧ w = w' := by
  by_cases h1 : lo ≤ n
  · by_cases h2 : n ≤ hi
    · go_enter Try.func70, Try.ntmps70
      go_wp2
      go_ret
      exact ⟨by simp [inR, *], rfl⟩
    · go_enter Try.func70, Try.ntmps70
      go_wp2
      go_ret
      exact ⟨by simp [inR, *], rfl⟩
  · go_enter Try.func70, Try.ntmps70
    go_wp2
    go_ret
    exact ⟨by simp [inR]; omega, rfl⟩

set_option maxHeartbeats 400000 in
theorem badOdds_any (n : Int) (w : World) :
    Calls Try.prog 69 #[I n] w fun e w' => e = .returned (.bool (badOdds n)) ∧ w = w' := by
  go_enter Try.func69, Try.ntmps69
  go_wp2_with (go_at_call 70; refine (within_any _ _ _ _).mono ?_; rintro e w' ⟨rfl, rfl⟩)
  go_ret
  exact ⟨rfl, rfl⟩

set_option maxHeartbeats 400000 in
theorem badPt_any (p : Pt) (w : World) :
    Calls Try.prog 71 #[.agg #[I p.lo, I p.hi, I p.cost]] w fun e w' => e = .returned (.bool (badPt p)) ∧ Below w.heap.size w w' := by
  rcases p with ⟨lo, hi, cost⟩
  show Calls Try.prog 71 #[.agg #[I lo, I hi, I cost]] w _
  cases h1 : inR hi 0 99
  · go_enter Try.func71, Try.ntmps71
    go_wp2_with (go_at_call 70; refine (within_any _ _ _ _).mono ?_; rintro e w' ⟨rfl, rfl⟩)
    go_ret
    exact ⟨by simp [badPt, h1], (Below.refl _ _).alloc (Nat.le_refl _) _⟩
  · cases h2 : inR lo 0 hi
    · go_enter Try.func71, Try.ntmps71
      go_wp2_with (go_at_call 70; refine (within_any _ _ _ _).mono ?_; rintro e w' ⟨rfl, rfl⟩)
      go_ret
      exact ⟨by simp [badPt, h1, h2], (Below.refl _ _).alloc (Nat.le_refl _) _⟩
    · go_enter Try.func71, Try.ntmps71
      go_wp2_with (go_at_call 70; refine (within_any _ _ _ _).mono ?_; rintro e w' ⟨rfl, rfl⟩)
      go_ret
      exact ⟨by simp [badPt, h1, h2], (Below.refl _ _).alloc (Nat.le_refl _) _⟩

set_option maxHeartbeats 400000 in
theorem indexOdds_no (ov : Value) (xs : List Int) (w : World) (hr : Ints w ov xs) (hn : xs.any badOdds = false) :
    Calls Try.prog 82 #[ov, .func (.func 69) #[] #[]] w fun e w' => e = .returned (I (-1)) ∧ w = w' := by
  obtain ⟨A, c, rfl, hnc, hcm, hc⟩ := hr.open_
  have HC := Lib.hid hc; clear hc
  have HN := Lib.hid hn; clear hn hr
  go_enter Try.func82, Try.ntmps82
  go_wp2_with fail
  go_loop [8] (fun i => ∃ k : Nat, k ≤ xs.length ∧ i = I k) (fun i => xs.length - (intOf i).toNat)
  case atStart => exact ⟨0, by omega, rfl⟩
  case round =>
    obtain ⟨k, hk, rfl⟩ := hrel
    by_cases hlt : k < xs.length
    · obtain ⟨b, o, rfl, _, hcell⟩ := HC.out (by omega)
      have hcell := hcell k hlt
      have hb : badOdds xs[k] = false := by
        have := HN.out
        simp only [List.any_eq_false] at this
        simpa using this _ (List.getElem_mem hlt)
      go_wp2_with (go_at_call 69; refine (badOdds_any _ _).mono ?_; rintro e w' ⟨rfl, rfl⟩)
      go_round
      case rel => exact ⟨k + 1, by omega, by go_num⟩
      case measure => simp [intOf]; omega
    · go_wp2_with fail
      go_ret
      exact ⟨rfl, rfl⟩

set_option maxHeartbeats 400000 in
theorem indexOdds_yes (ov : Value) (xs : List Int) (w : World) (hr : Ints w ov xs) (hn : xs.any badOdds = true) :
    Calls Try.prog 82 #[ov, .func (.func 69) #[] #[]] w (RetNat w) := by
  obtain ⟨A, c, rfl, hnc, hcm, hc⟩ := hr.open_
  have HC := Lib.hid hc; clear hc
  have HN := Lib.hid hn; clear hn hr
  go_enter Try.func82, Try.ntmps82
  go_wp2_with fail
  go_loop [8] (fun i => ∃ k : Nat, k ≤ xs.length ∧ i = I k ∧ (xs.drop k).any badOdds = true) (fun i => xs.length - (intOf i).toNat)
  case atStart => exact ⟨0, by omega, rfl, HN.out⟩
  case round =>
    obtain ⟨k, hk, rfl, hd⟩ := hrel
    have hlt : k < xs.length := by
      apply Classical.byContradiction
      intro hge
      rw [List.drop_eq_nil_of_le (by omega)] at hd
      simp at hd
    rw [List.drop_eq_getElem_cons hlt, List.any_cons] at hd
    obtain ⟨b, o, rfl, _, hcell⟩ := HC.out (by omega)
    have hcell := hcell k hlt
    have HD := Lib.hid hd; clear hd
    cases hb : badOdds xs[k]
    · go_wp2_with (go_at_call 69; refine (badOdds_any _ _).mono ?_; rintro e w' ⟨rfl, rfl⟩)
      go_round
      case rel => exact ⟨k + 1, by omega, by go_num, by have := HD.out; simpa [hb] using this⟩
      case measure => simp [intOf]; omega
    · go_wp2_with (go_at_call 69; refine (badOdds_any _ _).mono ?_; rintro e w' ⟨rfl, rfl⟩)
      go_ret
      exact ⟨k, rfl, Below.refl _ _⟩

set_option maxHeartbeats 400000 in
theorem containsOdds_any (ov : Value) (xs : List Int) (w : World) (hr : Ints w ov xs) :
    Calls Try.prog 72 #[ov, .func (.func 69) #[] #[]] w fun e w' => e = .returned (.bool (xs.any badOdds)) ∧ Below w.heap.size w w' := by
  cases hb : xs.any badOdds
  · go_enter Try.func72, Try.ntmps72
    go_wp2_with (go_at_call 82; refine (indexOdds_no _ _ _ hr hb).mono ?_; rintro e w' ⟨rfl, rfl⟩)
    go_ret
    exact ⟨rfl, Below.refl _ _⟩
  · go_enter Try.func72, Try.ntmps72
    go_wp2_with (go_at_call 82; refine (indexOdds_yes _ _ _ hr hb).mono ?_; rintro e w' ⟨k, rfl, hw⟩)
    go_ret
    exact ⟨by simp, hw⟩

set_option maxHeartbeats 400000 in
theorem indexPts_no (pv : Value) (ps : List Pt) (w : World) (hr : Pts w pv ps) (hn : ps.any badPt = false) :
    Calls Try.prog 83 #[pv, .func (.func 71) #[] #[]] w fun e w' => e = .returned (I (-1)) ∧ Below w.heap.size w w' := by
  obtain ⟨A, c, rfl, hnc, hcm, hc⟩ := hr.open_
  have HC := Lib.hid hc; clear hc
  have HN := Lib.hid hn; clear hn hr
  go_enter Try.func83, Try.ntmps83
  go_wp2_with fail
  go_loopw [8] (fun i wr => ∃ k : Nat, k ≤ ps.length ∧ i = I k ∧ Below w.heap.size w wr) (fun i _ => ps.length - (intOf i).toNat)
  case atStart => exact ⟨0, by omega, rfl, Below.refl _ _⟩
  case round =>
    obtain ⟨k, hk, rfl, hbw⟩ := hrel
    by_cases hlt : k < ps.length
    · obtain ⟨b, o, rfl, hbl, hcell⟩ := HC.out (by omega)
      obtain ⟨h1, h2, h3⟩ := hcell k hlt
      rw [← hbw.cell (p := ⟨b, _, none⟩) hbl] at h1 h2 h3
      have hb : badPt ps[k] = false := by
        have := HN.out
        simp only [List.any_eq_false] at this
        simpa using this _ (List.getElem_mem hlt)
      go_wp2_with (go_at_call 71; refine (badPt_any _ _).mono ?_; rintro e w' ⟨rfl, hw'⟩)
      go_roundw
      case rel => exact ⟨k + 1, by omega, by go_num, bto hbw hw'⟩
      case measure => simp [intOf]; omega
    · go_wp2_with fail
      go_ret
      exact ⟨rfl, hbw⟩

set_option maxHeartbeats 400000 in
theorem indexPts_yes (pv : Value) (ps : List Pt) (w : World) (hr : Pts w pv ps) (hn : ps.any badPt = true) :
    Calls Try.prog 83 #[pv, .func (.func 71) #[] #[]] w (RetNat w) := by
  obtain ⟨A, c, rfl, hnc, hcm, hc⟩ := hr.open_
  have HC := Lib.hid hc; clear hc
  have HN := Lib.hid hn; clear hn hr
  go_enter Try.func83, Try.ntmps83
  go_wp2_with fail
  go_loopw [8] (fun i wr => ∃ k : Nat, k ≤ ps.length ∧ i = I k ∧ (ps.drop k).any badPt = true ∧ Below w.heap.size w wr) (fun i _ => ps.length - (intOf i).toNat)
  case atStart => exact ⟨0, by omega, rfl, HN.out, Below.refl _ _⟩
  case round =>
    obtain ⟨k, hk, rfl, hd, hbw⟩ := hrel
    have hlt : k < ps.length := by
      apply Classical.byContradiction
      intro hge
      rw [List.drop_eq_nil_of_le (by omega)] at hd
      simp at hd
    rw [List.drop_eq_getElem_cons hlt, List.any_cons] at hd
    obtain ⟨b, o, rfl, hbl, hcell⟩ := HC.out (by omega)
    obtain ⟨h1, h2, h3⟩ := hcell k hlt
    rw [← hbw.cell (p := ⟨b, _, none⟩) hbl] at h1 h2 h3
    have HD := Lib.hid hd; clear hd
    cases hb : badPt ps[k]
    · go_wp2_with (go_at_call 71; refine (badPt_any _ _).mono ?_; rintro e w' ⟨rfl, hw'⟩)
      go_roundw
      case rel => exact ⟨k + 1, by omega, by go_num, by have := HD.out; simpa [hb] using this, bto hbw hw'⟩
      case measure => simp [intOf]; omega
    · go_wp2_with (go_at_call 71; refine (badPt_any _ _).mono ?_; rintro e w' ⟨rfl, hw'⟩)
      go_ret
      exact ⟨k, rfl, bto hbw hw'⟩

set_option maxHeartbeats 400000 in
theorem containsPts_any (pv : Value) (ps : List Pt) (w : World) (hr : Pts w pv ps) :
    Calls Try.prog 73 #[pv, .func (.func 71) #[] #[]] w fun e w' => e = .returned (.bool (ps.any badPt)) ∧ Below w.heap.size w w' := by
  cases hb : ps.any badPt
  · go_enter Try.func73, Try.ntmps73
    go_wp2_with (go_at_call 83; refine (indexPts_no _ _ _ hr hb).mono ?_; rintro e w' ⟨rfl, hw⟩)
    go_ret
    exact ⟨rfl, hw⟩
  · go_enter Try.func73, Try.ntmps73
    go_wp2_with (go_at_call 83; refine (indexPts_yes _ _ _ hr hb).mono ?_; rintro e w' ⟨k, rfl, hw⟩)
    go_ret
    exact ⟨by simp, hw⟩
end Go.Proofs.Ytbddaemekgflmaa
