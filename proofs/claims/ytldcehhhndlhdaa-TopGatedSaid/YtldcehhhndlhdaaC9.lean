/- Readings of slices of integers and of points in memory, the data of a line, and small lemmas on them. Plain; no conditions. -/
import Derived.Test.YtldcehhhndlhdaaC1
import Derived.Test.YtldcehhhndlhdaaRows
import Derived.Test.YtldcehhhndlhdaaC4
import Derived.WalkKit
import Derived.WalkSpells
import Derived.WalkLawsBesides
import Derived.Handy
import Derived.BigQuiet
import Derived.Lib.Hide
import Derived.Lib.QuietBelow
import Derived.Deep.RegionHeld3
import Derived.Maps.AppendAt
namespace Go.Proofs.Ytldcehhhndlhdaa
open Go.RowKit

def Pt.cells (p : Pt) : List Value := [I p.lo, I p.hi, I p.cost]
def ptCells (ps : List Pt) : List Value := ps.flatMap Pt.cells
theorem ptCells_length (ps : List Pt) : (ptCells ps).length = ps.length * 3 := by
  induction ps with
  | nil => rfl
  | cons p ps ih => simp [ptCells, Pt.cells] at ih ⊢; omega
theorem ptCells_at : ∀ (ps : List Pt) (i : Nat) (h : i < ps.length), (ptCells ps)[i * 3]? = some (I ps[i].lo) ∧ (ptCells ps)[i * 3 + 1]? = some (I ps[i].hi) ∧ (ptCells ps)[i * 3 + 2]? = some (I ps[i].cost)
  | [], i, h => absurd h (by simp)
  | p :: ps, 0, _ => ⟨rfl, rfl, rfl⟩
  | p :: ps, i + 1, h => by
    have := ptCells_at ps i (by simpa using h)
    have e : ptCells (p :: ps) = I p.lo :: I p.hi :: I p.cost :: ptCells ps := rfl
    rw [e, show (i + 1) * 3 = i * 3 + 3 from by omega]
    simpa using this

def Pts (w : World) (v : Value) (ps : List Pt) : Prop := Reads w 3 v ps.length (ptCells ps)
theorem Pts.below {w w' : World} {v : Value} {ps : List Pt} (h : Pts w v ps) (hb : Below w.heap.size w w') : Pts w' v ps := Reads.below h hb
theorem Pts.open_ {w : World} {v : Value} {ps : List Pt} (h : Pts w v ps) :
    ∃ A c, v = .slice A ps.length c ∧ ps.length ≤ c ∧ c ≤ 9223372036854775807 ∧ (0 < ps.length → ∃ b o, A = some ⟨b, o, none⟩ ∧ b < w.heap.size ∧
      ∀ j (hj : j < ps.length), w.cell? ⟨b, o + j * 3, none⟩ = some (I ps[j].lo) ∧ w.cell? ⟨b, o + j * 3 + 1, none⟩ = some (I ps[j].hi) ∧ w.cell? ⟨b, o + j * 3 + 2, none⟩ = some (I ps[j].cost)) := by
  obtain ⟨h1, A, c, h2, h3, h4, h5⟩ := h
  refine ⟨A, c, h2, h3, h4, fun hn => ?_⟩
  obtain ⟨b, o, h6, h7⟩ := h5 hn
  have hc : ∀ j (hj : j < ps.length), w.cell? ⟨b, o + j * 3, none⟩ = some (I ps[j].lo) ∧ w.cell? ⟨b, o + j * 3 + 1, none⟩ = some (I ps[j].hi) ∧ w.cell? ⟨b, o + j * 3 + 2, none⟩ = some (I ps[j].cost) := fun j hj => by
    obtain ⟨e1, e2, e3⟩ := ptCells_at ps j hj
    exact ⟨h7 _ _ e1, by have := h7 _ _ e2; simpa [Nat.add_assoc] using this, by have := h7 _ _ e3; simpa [Nat.add_assoc] using this⟩
  exact ⟨b, o, h6, World.block_lt_of_cell? w _ (hc 0 hn).1, hc⟩

def LineAt (w : World) (v : Value) (d : DLine) : Prop := ∃ pv ov, v = .agg #[pv, ov] ∧ Pts w pv d.pts ∧ Ints w ov d.odds
theorem LineAt.below {w w' : World} {v : Value} {d : DLine} (h : LineAt w v d) (hb : Below w.heap.size w w') : LineAt w' v d := by
  obtain ⟨pv, ov, h1, h2, h3⟩ := h
  exact ⟨pv, ov, h1, h2.below hb, h3.below hb⟩

end Go.Proofs.Ytldcehhhndlhdaa
/- Walks of the smallest functions of the program: within, Check and what it calls, ask, areStretches, isStretch, isPoint, odds. -/
namespace Go.Proofs.Ytldcehhhndlhdaa
open Go.RowKit

set_option maxHeartbeats 400000 in
theorem within_any (n lo hi : Int) (w : World) :
    Calls Try.prog 76 #[I n, I lo, I hi] w fun e w' => e = .returned (.bool (inR n lo hi)) ∧ w = w' := by
  by_cases h1 : lo ≤ n
  · by_cases h2 : n ≤ hi
    · go_enter Try.func76, Try.ntmps76
      go_wp2
      go_ret
      exact ⟨by simp [inR, *], rfl⟩
    · go_enter Try.func76, Try.ntmps76
      go_wp2
      go_ret
      exact ⟨by simp [inR, *], rfl⟩
  · go_enter Try.func76, Try.ntmps76
    go_wp2
    go_ret
    exact ⟨by simp [inR]; omega, rfl⟩

set_option maxHeartbeats 400000 in
theorem badOdds_any (n : Int) (w : World) :
    Calls Try.prog 110 #[I n] w fun e w' => e = .returned (.bool (badOdds n)) ∧ w = w' := by
  go_enter Try.func110, Try.ntmps110
  go_wp2_with (go_at_call 76; refine (within_any _ _ _ _).mono ?_; rintro e w' ⟨rfl, rfl⟩)
  go_ret
  exact ⟨rfl, rfl⟩

set_option maxHeartbeats 400000 in
theorem badPt_any (p : Pt) (w : World) :
    Calls Try.prog 111 #[.agg #[I p.lo, I p.hi, I p.cost]] w fun e w' => e = .returned (.bool (badPt p)) ∧ Below w.heap.size w w' := by
  rcases p with ⟨lo, hi, cost⟩
  show Calls Try.prog 111 #[.agg #[I lo, I hi, I cost]] w _
  cases h1 : inR hi 0 99
  · go_enter Try.func111, Try.ntmps111
    go_wp2_with (go_at_call 76; refine (within_any _ _ _ _).mono ?_; rintro e w' ⟨rfl, rfl⟩)
    go_ret
    exact ⟨by simp [badPt, h1], (Below.refl _ _).alloc (Nat.le_refl _) _⟩
  · cases h2 : inR lo 0 hi
    · go_enter Try.func111, Try.ntmps111
      go_wp2_with (go_at_call 76; refine (within_any _ _ _ _).mono ?_; rintro e w' ⟨rfl, rfl⟩)
      go_ret
      exact ⟨by simp [badPt, h1, h2], (Below.refl _ _).alloc (Nat.le_refl _) _⟩
    · go_enter Try.func111, Try.ntmps111
      go_wp2_with (go_at_call 76; refine (within_any _ _ _ _).mono ?_; rintro e w' ⟨rfl, rfl⟩)
      go_ret
      exact ⟨by simp [badPt, h1, h2], (Below.refl _ _).alloc (Nat.le_refl _) _⟩

set_option maxHeartbeats 400000 in
theorem indexOdds_no (ov : Value) (xs : List Int) (w : World) (hr : Ints w ov xs) (hn : xs.any badOdds = false) :
    Calls Try.prog 113 #[ov, .func (.func 110) #[] #[]] w fun e w' => e = .returned (I (-1)) ∧ w = w' := by
  obtain ⟨A, c, rfl, hnc, hcm, hc⟩ := hr.open_
  have HC := Lib.hid hc; clear hc
  have HN := Lib.hid hn; clear hn hr
  go_enter Try.func113, Try.ntmps113
  go_wp2_with fail
  go_loop [8] (fun i => ∃ k : Nat, k ≤ xs.length ∧ i = I k) (fun i => xs.length - (intOf i).toNat)
  case atStart => exact ⟨0, by omega, rfl⟩
  case round =>
    obtain ⟨k, hk, rfl⟩ := hrel
    by_cases hlt : k < xs.length
    · obtain ⟨b, o, rfl, _, hcell⟩ := HC.out (by omega)
      have hcell := hcell k hlt
      have hb : badOdds xs[k] = false := by
        have := HN.out
        simp only [List.any_eq_false] at this
        simpa using this _ (List.getElem_mem hlt)
      go_wp2_with (go_at_call 110; refine (badOdds_any _ _).mono ?_; rintro e w' ⟨rfl, rfl⟩)
      go_round
      case rel => exact ⟨k + 1, by omega, by go_num⟩
      case measure => simp [intOf]; omega
    · go_wp2_with fail
      go_ret
      exact ⟨rfl, rfl⟩

set_option maxHeartbeats 400000 in
theorem indexOdds_yes (ov : Value) (xs : List Int) (w : World) (hr : Ints w ov xs) (hn : xs.any badOdds = true) :
    Calls Try.prog 113 #[ov, .func (.func 110) #[] #[]] w (RetNat w) := by
  obtain ⟨A, c, rfl, hnc, hcm, hc⟩ := hr.open_
  have HC := Lib.hid hc; clear hc
  have HN := Lib.hid hn; clear hn hr
  go_enter Try.func113, Try.ntmps113
  go_wp2_with fail
  go_loop [8] (fun i => ∃ k : Nat, k ≤ xs.length ∧ i = I k ∧ (xs.drop k).any badOdds = true) (fun i => xs.length - (intOf i).toNat)
  case atStart => exact ⟨0, by omega, rfl, HN.out⟩
  case round =>
    obtain ⟨k, hk, rfl, hd⟩ := hrel
    have hlt : k < xs.length := by
      apply Classical.byContradiction
      intro hge
      rw [List.drop_eq_nil_of_le (by omega)] at hd
      simp at hd
    rw [List.drop_eq_getElem_cons hlt, List.any_cons] at hd
    obtain ⟨b, o, rfl, _, hcell⟩ := HC.out (by omega)
    have hcell := hcell k hlt
    have HD := Lib.hid hd; clear hd
    cases hb : badOdds xs[k]
    · go_wp2_with (go_at_call 110; refine (badOdds_any _ _).mono ?_; rintro e w' ⟨rfl, rfl⟩)
      go_round
      case rel => exact ⟨k + 1, by omega, by go_num, by have := HD.out; simpa [hb] using this⟩
      case measure => simp [intOf]; omega
    · go_wp2_with (go_at_call 110; refine (badOdds_any _ _).mono ?_; rintro e w' ⟨rfl, rfl⟩)
      go_ret
      exact ⟨k, rfl, Below.refl _ _⟩

set_option maxHeartbeats 400000 in
theorem containsOdds_any (ov : Value) (xs : List Int) (w : World) (hr : Ints w ov xs) :
    Calls Try.prog 103 #[ov, .func (.func 110) #[] #[]] w fun e w' => e = .returned (.bool (xs.any badOdds)) ∧ Below w.heap.size w w' := by
  cases hb : xs.any badOdds
  · go_enter Try.func103, Try.ntmps103
    go_wp2_with (go_at_call 113; refine (indexOdds_no _ _ _ hr hb).mono ?_; rintro e w' ⟨rfl, rfl⟩)
    go_ret
    exact ⟨rfl, Below.refl _ _⟩
  · go_enter Try.func103, Try.ntmps103
    go_wp2_with (go_at_call 113; refine (indexOdds_yes _ _ _ hr hb).mono ?_; rintro e w' ⟨k, rfl, hw⟩)
    go_ret
    exact ⟨by simp, hw⟩

set_option maxHeartbeats 400000 in
theorem indexPts_no (pv : Value) (ps : List Pt) (w : World) (hr : Pts w pv ps) (hn : ps.any badPt = false) :
    Calls Try.prog 114 #[pv, .func (.func 111) #[] #[]] w fun e w' => e = .returned (I (-1)) ∧ Below w.heap.size w w' := by
  obtain ⟨A, c, rfl, hnc, hcm, hc⟩ := hr.open_
  have HC := Lib.hid hc; clear hc
  have HN := Lib.hid hn; clear hn hr
  go_enter Try.func114, Try.ntmps114
  go_wp2_with fail
  go_loopw [8] (fun i wr => ∃ k : Nat, k ≤ ps.length ∧ i = I k ∧ Below w.heap.size w wr) (fun i _ => ps.length - (intOf i).toNat)
  case atStart => exact ⟨0, by omega, rfl, Below.refl _ _⟩
  case round =>
    obtain ⟨k, hk, rfl, hbw⟩ := hrel
    by_cases hlt : k < ps.length
    · obtain ⟨b, o, rfl, hbl, hcell⟩ := HC.out (by omega)
      obtain ⟨h1, h2, h3⟩ := hcell k hlt
      rw [← hbw.cell (p := ⟨b, _, none⟩) hbl] at h1 h2 h3
      have hb : badPt ps[k] = false := by
        have := HN.out
        simp only [List.any_eq_false] at this
        simpa using this _ (List.getElem_mem hlt)
      go_wp2_with (go_at_call 111; refine (badPt_any _ _).mono ?_; rintro e w' ⟨rfl, hw'⟩)
      go_roundw
      case rel => exact ⟨k + 1, by omega, by go_num, bto hbw hw'⟩
      case measure => simp [intOf]; omega
    · go_wp2_with fail
      go_ret
      exact ⟨rfl, hbw⟩

set_option maxHeartbeats 400000 in
theorem indexPts_yes (pv : Value) (ps : List Pt) (w : World) (hr : Pts w pv ps) (hn : ps.any badPt = true) :
    Calls Try.prog 114 #[pv, .func (.func 111) #[] #[]] w (RetNat w) := by
  obtain ⟨A, c, rfl, hnc, hcm, hc⟩ := hr.open_
  have HC := Lib.hid hc; clear hc
  have HN := Lib.hid hn; clear hn hr
  go_enter Try.func114, Try.ntmps114
  go_wp2_with fail
  go_loopw [8] (fun i wr => ∃ k : Nat, k ≤ ps.length ∧ i = I k ∧ (ps.drop k).any badPt = true ∧ Below w.heap.size w wr) (fun i _ => ps.length - (intOf i).toNat)
  case atStart => exact ⟨0, by omega, rfl, HN.out, Below.refl _ _⟩
  case round =>
    obtain ⟨k, hk, rfl, hd, hbw⟩ := hrel
    have hlt : k < ps.length := by
      apply Classical.byContradiction
      intro hge
      rw [List.drop_eq_nil_of_le (by omega)] at hd
      simp at hd
    rw [List.drop_eq_getElem_cons hlt, List.any_cons] at hd
    obtain ⟨b, o, rfl, hbl, hcell⟩ := HC.out (by omega)
    obtain ⟨h1, h2, h3⟩ := hcell k hlt
    rw [← hbw.cell (p := ⟨b, _, none⟩) hbl] at h1 h2 h3
    have HD := Lib.hid hd; clear hd
    cases hb : badPt ps[k]
    · go_wp2_with (go_at_call 111; refine (badPt_any _ _).mono ?_; rintro e w' ⟨rfl, hw'⟩)
      go_roundw
      case rel => exact ⟨k + 1, by omega, by go_num, by have := HD.out; simpa [hb] using this, bto hbw hw'⟩
      case measure => simp [intOf]; omega
    · go_wp2_with (go_at_call 111; refine (badPt_any _ _).mono ?_; rintro e w' ⟨rfl, hw'⟩)
      go_ret
      exact ⟨k, rfl, bto hbw hw'⟩

set_option maxHeartbeats 400000 in
theorem containsPts_any (pv : Value) (ps : List Pt) (w : World) (hr : Pts w pv ps) :
    Calls Try.prog 112 #[pv, .func (.func 111) #[] #[]] w fun e w' => e = .returned (.bool (ps.any badPt)) ∧ Below w.heap.size w w' := by
  cases hb : ps.any badPt
  · go_enter Try.func112, Try.ntmps112
    go_wp2_with (go_at_call 114; refine (indexPts_no _ _ _ hr hb).mono ?_; rintro e w' ⟨rfl, hw⟩)
    go_ret
    exact ⟨rfl, hw⟩
  · go_enter Try.func112, Try.ntmps112
    go_wp2_with (go_at_call 114; refine (indexPts_yes _ _ _ hr hb).mono ?_; rintro e w' ⟨k, rfl, hw⟩)
    go_ret
    exact ⟨by simp, hw⟩
end Go.Proofs.Ytldcehhhndlhdaa
/- Walks of Check, ask, areStretches, isStretch, isPoint, odds of the program. -/
namespace Go.Proofs.Ytldcehhhndlhdaa
open Go.RowKit

set_option maxHeartbeats 1000000 in
theorem check_any (v : Value) (d : DLine) (w : World) (hv : LineAt w v d) (hlen : d.odds.length ≤ 1000) :
    Calls Try.prog 101 #[v] w fun e w' => e = .returned (I (chk d)) ∧ Below w.heap.size w w' := by
  obtain ⟨pv, ov, rfl, hp, ho⟩ := hv
  obtain ⟨A, c, rfl, _, _, _⟩ := ho.open_
  obtain ⟨A', c', rfl, _, _, _⟩ := hp.open_
  have hb0 : ∀ x, Below w.heap.size w (w.alloc x) := fun x => (Below.refl _ _).alloc (Nat.le_refl _) _
  have HP := Lib.hid hp; clear hp
  have HO := Lib.hid ho; clear ho
  by_cases h1 : 7 < d.odds.length
  · go_enter Try.func101, Try.ntmps101
    go_wp2_with fail
    go_ret
    exact ⟨by simp [chk, valid]; omega, hb0 _⟩
  · cases h2 : d.odds.any badOdds
    · by_cases h3 : d.pts.length = d.odds.length + 1
      · have H3 := Lib.hid h3
        have h3' : ((d.pts.length : Int) != (d.odds.length : Int) + 1) = false := by simp; omega
        clear h3
        cases h4 : d.pts.any badPt
        · go_enter Try.func101, Try.ntmps101
          go_wp2_with (first | (go_at_call 103; refine (containsOdds_any _ _ _ (HO.out.below (hb0 _))).mono ?_; rintro e w1 ⟨rfl, hb1⟩; obtain ⟨hc1, hf1⟩ := bcell hb1) | (go_at_call 112; refine (containsPts_any _ _ _ (HP.out.below (bto (hb0 _) hb1))).mono ?_; rintro e w2 ⟨rfl, hb2⟩))
          go_ret
          exact ⟨by have := H3.out; simp [chk, valid, h2, h4, this]; omega, bto (hb0 _) (bto hb1 hb2)⟩
        · go_enter Try.func101, Try.ntmps101
          go_wp2_with (first | (go_at_call 103; refine (containsOdds_any _ _ _ (HO.out.below (hb0 _))).mono ?_; rintro e w1 ⟨rfl, hb1⟩; obtain ⟨hc1, hf1⟩ := bcell hb1) | (go_at_call 112; refine (containsPts_any _ _ _ (HP.out.below (bto (hb0 _) hb1))).mono ?_; rintro e w2 ⟨rfl, hb2⟩))
          go_ret
          exact ⟨by simp [chk, valid, h4], bto (hb0 _) (bto hb1 hb2)⟩
      · have h3' : ((d.pts.length : Int) != (d.odds.length : Int) + 1) = true := by simp; omega
        go_enter Try.func101, Try.ntmps101
        go_wp2_with (go_at_call 103; refine (containsOdds_any _ _ _ (HO.out.below (hb0 _))).mono ?_; rintro e w1 ⟨rfl, hb1⟩; obtain ⟨hc1, hf1⟩ := bcell hb1)
        go_ret
        exact ⟨by simp [chk, valid, h3], bto (hb0 _) hb1⟩
    · go_enter Try.func101, Try.ntmps101
      go_wp2_with (go_at_call 103; refine (containsOdds_any _ _ _ (HO.out.below (hb0 _))).mono ?_; rintro e w1 ⟨rfl, hb1⟩; obtain ⟨hc1, hf1⟩ := bcell hb1)
      go_ret
      exact ⟨by simp [chk, valid, h2], bto (hb0 _) hb1⟩

set_option maxHeartbeats 400000 in
theorem ask_any (v : Value) (d : DLine) (is : Bool) (w : World) (hv : LineAt w v d) (hlen : d.odds.length ≤ 1000) :
    Calls Try.prog 73 #[v, .bool is] w fun e w' => e = .returned (I (askE d is)) ∧ Below w.heap.size w w' := by
  have hv0 := hv
  obtain ⟨pv, ov, rfl, hp, ho⟩ := hv
  have hb0 : ∀ x, Below w.heap.size w (w.alloc x) := fun x => (Below.refl _ _).alloc (Nat.le_refl _) _
  have HV := Lib.hid hv0; clear hv0 hp ho
  cases h1 : valid d
  · have h2 : chk d = 60 := by simp [chk, h1]
    go_enter Try.func73, Try.ntmps73
    go_wp2_with (go_at_call 101; refine (check_any _ _ _ (HV.out.below (hb0 _)) hlen).mono ?_; rintro e w1 ⟨rfl, hb1⟩)
    go_ret
    exact ⟨by simp [askE, h1], bto (hb0 _) hb1⟩
  · have h2 : chk d = 0 := by simp [chk, h1]
    cases is
    · go_enter Try.func73, Try.ntmps73
      go_wp2_with (go_at_call 101; refine (check_any _ _ _ (HV.out.below (hb0 _)) hlen).mono ?_; rintro e w1 ⟨rfl, hb1⟩)
      go_ret
      exact ⟨by simp [askE, h1], bto (hb0 _) hb1⟩
    · go_enter Try.func73, Try.ntmps73
      go_wp2_with (go_at_call 101; refine (check_any _ _ _ (HV.out.below (hb0 _)) hlen).mono ?_; rintro e w1 ⟨rfl, hb1⟩)
      go_ret
      exact ⟨by simp [askE, h1], bto (hb0 _) hb1⟩

end Go.Proofs.Ytldcehhhndlhdaa
/- Walks of the two measures' part. -/
namespace Go.Proofs.Ytldcehhhndlhdaa
open Go.RowKit Go.Sort

theorem costAt_eq {d : DLine} {p : Nat} (h : p < d.pts.length) : costAt d p = d.pts[p].cost := by simp [costAt, List.getElem?_eq_getElem h]

end Go.Proofs.Ytldcehhhndlhdaa
/- Walk of reckon: the table of all stretches, for the measure at worst and for the sum. -/
namespace Go.Proofs.Ytldcehhhndlhdaa
open Go.RowKit Go.Sort

def TabAt (w : World) (T : Nat) (E : Nat → Nat → Int × Nat) : Prop := ∀ i j, i < 8 → j < 8 → w.cell? ⟨T, i * 16 + j * 2, none⟩ = some (I (E i j).1) ∧ w.cell? ⟨T, i * 16 + j * 2 + 1, none⟩ = some (I (E i j).2)
theorem TabAt.congr {w : World} {T : Nat} {E E' : Nat → Nat → Int × Nat} (h : TabAt w T E) (he : ∀ i j, i < 8 → j < 8 → E i j = E' i j) : TabAt w T E' :=
  fun i j hi hj => by rw [← he i j hi hj]; exact h i j hi hj
def RetTab (w : World) (E : Nat → Nat → Int × Nat) (e : Ending) (w' : World) : Prop := ∃ T, e = .returned (.pointer (some ⟨T, 0, none⟩)) ∧ TabAt w' T E ∧ Below w.heap.size w w'
def entN (part : Part) (n many frm : Nat) (cur : Int × Nat) (i j : Nat) : Int × Nat :=
  if ¬ (i < j ∧ j ≤ n) then (0, 0) else if j - i < many ∨ (j - i = many ∧ i < frm) then tab part (j - i) i else if j - i = many ∧ i = frm then cur else (0, 0)
def entF (part : Part) (n i j : Nat) : Int × Nat := if i < j ∧ j ≤ n then tab part (j - i) i else (0, 0)
/-- What holds between two steps of 'reckon'. -/
structure RS (w wr : World) (pv ov : Value) (E : Nat → Nat → Int × Nat) : Prop where
  below : Below w.heap.size w wr
  c0 : wr.cell? ⟨w.heap.size, 0, none⟩ = some pv
  c1 : wr.cell? ⟨w.heap.size, 1, none⟩ = some ov
  tab : TabAt wr (w.heap.size + 1) E
  fr : ∀ o, wr.frozen? ⟨w.heap.size + 1, o, none⟩ = false
theorem RS.size {w wr : World} {pv ov : Value} {E : Nat → Nat → Int × Nat} (h : RS w wr pv ov E) : w.heap.size + 1 < wr.heap.size :=
  World.block_lt_of_cell? wr _ (h.tab 0 0 (by omega) (by omega)).1
theorem RS.ext {w wr wr' : World} {pv ov : Value} {E : Nat → Nat → Int × Nat} (h : RS w wr pv ov E) (hb : Below wr.heap.size wr wr') : RS w wr' pv ov E := by
  have hs := h.size
  obtain ⟨b1, b2⟩ := bcell hb
  exact ⟨bto h.below hb, by rw [b1 _ _ (by omega)]; exact h.c0, by rw [b1 _ _ (by omega)]; exact h.c1,
    fun i j hi hj => by rw [b1 _ _ (by omega), b1 _ _ (by omega)]; exact h.tab i j hi hj, fun o => by rw [b2 _ _ (by omega)]; exact h.fr o⟩
theorem RS.congr {w wr : World} {pv ov : Value} {E E' : Nat → Nat → Int × Nat} (h : RS w wr pv ov E) (he : ∀ i j, i < 8 → j < 8 → E i j = E' i j) : RS w wr pv ov E' :=
  ⟨h.below, h.c0, h.c1, h.tab.congr he, h.fr⟩

theorem RS.store {w wr : World} {pv ov : Value} {E : Nat → Nat → Int × Nat} (h : RS w wr pv ov E) (i j : Nat) (hi : i < 8) (hj : j < 8) (x : Int) (y : Nat) :
    RS w ((wr.setCell ⟨w.heap.size + 1, i * 16 + j * 2, none⟩ (I x)).setCell ⟨w.heap.size + 1, i * 16 + j * 2 + 1, none⟩ (I y)) pv ov (fun a b => if a = i ∧ b = j then (x, y) else E a b) := by
  have hs := h.size
  refine ⟨(h.below.setCell (p := ⟨w.heap.size + 1, _, none⟩) (by simp) _).setCell (p := ⟨w.heap.size + 1, _, none⟩) (by simp) _, ?_, ?_, ?_, ?_⟩
  · rw [World.cell?_setCell_other _ _ _ _ (by simp), World.cell?_setCell_other _ _ _ _ (by simp)]; exact h.c0
  · rw [World.cell?_setCell_other _ _ _ _ (by simp), World.cell?_setCell_other _ _ _ _ (by simp)]; exact h.c1
  · intro a b ha hb
    obtain ⟨q1, q2⟩ := h.tab a b ha hb
    by_cases hab : a = i ∧ b = j
    · obtain ⟨rfl, rfl⟩ := hab
      dsimp only
      rw [if_pos ⟨rfl, rfl⟩]
      refine ⟨?_, ?_⟩
      · rw [World.cell?_setCell_other _ _ _ _ (by simp)]
        exact World.cell?_setCell_same _ _ _ q1
      · refine World.cell?_setCell_same _ _ _ (u := I (E a b).2) ?_
        rw [World.cell?_setCell_other _ _ _ _ (by simp)]
        exact q2
    · dsimp only
      rw [if_neg hab]
      have hne : a * 16 + b * 2 ≠ i * 16 + j * 2 := by omega
      refine ⟨?_, ?_⟩
      · rw [World.cell?_setCell_other _ _ _ _ (by simp only [ne_eq, Addr.mk.injEq, true_and, and_true]; omega), World.cell?_setCell_other _ _ _ _ (by simp only [ne_eq, Addr.mk.injEq, true_and, and_true]; omega)]; exact q1
      · rw [World.cell?_setCell_other _ _ _ _ (by simp only [ne_eq, Addr.mk.injEq, true_and, and_true]; omega), World.cell?_setCell_other _ _ _ _ (by simp only [ne_eq, Addr.mk.injEq, true_and, and_true]; omega)]; exact q2
  · intro o
    rw [World.frozen?_setCell, World.frozen?_setCell]; exact h.fr o

/-- A new point's worth in the entry: the table's next state. -/
theorem entN_cur {part : Part} {n many frm : Nat} {cur : Int × Nat} {x : Int} {y : Nat} (h : frm + many ≤ n) (hm : 1 ≤ many) :
    ∀ a b, (if a = frm ∧ b = frm + many then (x, (y : Nat)) else entN part n many frm cur a b) = entN part n many frm (x, y) a b := by
  intro a b
  by_cases h0 : a = frm ∧ b = frm + many
  · obtain ⟨rfl, rfl⟩ := h0
    rw [if_pos ⟨rfl, rfl⟩]
    unfold entN
    rw [if_neg (by omega), if_neg (by omega), if_pos (by omega)]
  · rw [if_neg h0]
    unfold entN
    split
    · rfl
    · split
      · rfl
      · rw [if_neg (by omega), if_neg (by omega)]
theorem entN_next {part : Part} {n many frm : Nat} :
    ∀ a b, entN part n many frm (tab part many frm) a b = entN part n many (frm + 1) (0, 0) a b := by
  intro a b
  unfold entN
  split
  · rfl
  · rename_i h1
    split
    · rename_i h2
      rw [if_pos (by omega)]
    · rename_i h2
      split
      · rename_i h3
        rw [if_pos (by omega), h3.1, h3.2]
      · rename_i h3
        rw [if_neg (by omega)]
        split
        · rename_i h4
          rfl
        · rfl
theorem entN_row {part : Part} {n many frm : Nat} (h : n < frm + many) : ∀ a b, entN part n many frm (0, 0) a b = entN part n (many + 1) 0 (0, 0) a b := by
  intro a b
  unfold entN
  split
  · rfl
  · rename_i h1
    by_cases h2 : b - a < many ∨ (b - a = many ∧ a < frm)
    · rw [if_pos h2, if_pos (by omega)]
    · rw [if_neg h2, if_neg (by omega), if_neg (by omega)]
      split <;> rfl
theorem entN_end {part : Part} {n many : Nat} (h : n < many) : ∀ a b, entN part n many 0 (0, 0) a b = entF part n a b := by
  intro a b
  unfold entN entF
  by_cases h1 : a < b ∧ b ≤ n
  · rw [if_neg (by simpa using h1), if_pos (by omega), if_pos h1]
  · rw [if_pos h1, if_neg h1]
theorem entN_start {part : Part} {n : Nat} : ∀ a b, (0, 0) = entN part n 2 0 (0, 0) a b := by
  intro a b
  unfold entN
  split
  · rfl
  · rename_i h1
    split
    · rename_i h2
      have : b - a = 1 := by omega
      rw [this]; rfl
    · split <;> rfl

end Go.Proofs.Ytldcehhhndlhdaa
/- Walk of reckon: the table of all stretches, for the measure at worst. -/
namespace Go.Proofs.Ytldcehhhndlhdaa
open Go.RowKit Go.Sort

end Go.Proofs.Ytldcehhhndlhdaa
/- Walk of reckon: the table of all stretches, for the sum. -/
namespace Go.Proofs.Ytldcehhhndlhdaa
open Go.RowKit Go.Sort

end Go.Proofs.Ytldcehhhndlhdaa
/- Walks of Worst and Next. -/
namespace Go.Proofs.Ytldcehhhndlhdaa
open Go.RowKit Go.Sort

/-- What Worst and Next return. -/
def worstR (d : DLine) (f t : Int) : Int × Int := if askE d (someOf d f t) = 0 then (worstN d f.toNat t.toNat, 0) else (0, askE d (someOf d f t))
def nextR (d : DLine) (f t : Int) : Int × Int := if askE d (someOf d f t) = 0 then (if t = f + 1 then (0, 3) else (nextN d f.toNat t.toNat, 0)) else (0, askE d (someOf d f t))
theorem askE_ok {d : DLine} {is : Bool} (h : askE d is = 0) : valid d = true ∧ is = true := by
  unfold askE at h
  cases hv : valid d <;> cases is <;> simp [hv] at h ⊢
theorem someOf_spec {d : DLine} {f t : Int} (h : someOf d f t = true) : 0 ≤ f ∧ f < t ∧ t ≤ d.odds.length := by
  unfold someOf at h
  simpa [and_assoc] using h
theorem entF_eq (part : Part) (n i j : Nat) (h : i < j) (h' : j ≤ n) : entF part n i j = tab part (j - i) i := by
  unfold entF; rw [if_pos ⟨h, h'⟩]

end Go.Proofs.Ytldcehhhndlhdaa
/- Walks of isStretch, isPoint, Path, Paid. -/
namespace Go.Proofs.Ytldcehhhndlhdaa
open Go.RowKit Go.Sort

set_option maxHeartbeats 400000 in
theorem isPt_any (v : Value) (d : DLine) (n : Int) (w : World) (hv : LineAt w v d) (hlen : d.pts.length ≤ 1000) :
    Calls Try.prog 55 #[v, I n] w fun e w' => e = .returned (.bool (isPt d n)) ∧ Below w.heap.size w w' := by
  obtain ⟨pv, ov, rfl, hp, ho⟩ := hv
  obtain ⟨A, c, rfl, _, _, _⟩ := hp.open_
  clear hp ho
  go_enter Try.func55, Try.ntmps55
  go_wp2_with (go_at_call 76; refine (within_any _ _ _ _).mono ?_; rintro e w' ⟨rfl, rfl⟩)
  go_ret
  exact ⟨rfl, (Below.refl _ _).alloc (Nat.le_refl _) _⟩

theorem nextN_bd {d : DLine} {f t : Nat} (h : f + 1 < t) : f < nextN d f t ∧ nextN d f t < t := by
  unfold nextN
  rw [tab_eq]
  obtain ⟨h1, h2, _⟩ := (argmin_pt (tabG (worstP d) (t - f) f) f (t - f - 1)).2 (by omega)
  omega

theorem pathL_fuel (d : DLine) (s : Int) : ∀ k k' f t, t - f ≤ k → t - f ≤ k' → pathL d s k f t = pathL d s k' f t
  | 0, 0, _, _, _, _ => rfl
  | 0, k' + 1, f, t, h, _ => by unfold pathL; rw [if_neg (by omega)]
  | k + 1, 0, f, t, _, h => by unfold pathL; rw [if_neg (by omega)]
  | k + 1, k' + 1, f, t, h, h' => by
    unfold pathL
    by_cases h1 : f + 1 < t
    · have hb := nextN_bd (d := d) h1
      rw [if_pos h1, if_pos h1, pathL_fuel d s k k' f (nextN d f t) (by omega) (by omega), pathL_fuel d s k k' (nextN d f t) t (by omega) (by omega)]
    · rw [if_neg h1, if_neg h1]
theorem pathL_step (d : DLine) (s : Int) (f t : Nat) (h : f + 1 < t) : pathL d s (t - f) f t = (nextN d f t : Int) :: (if s < nextN d f t then pathL d s (nextN d f t - f) f (nextN d f t) else pathL d s (t - nextN d f t) (nextN d f t) t) := by
  have hb := nextN_bd (d := d) h
  obtain ⟨k, hk⟩ : ∃ k, t - f = k + 1 := ⟨t - f - 1, by omega⟩
  rw [hk, pathL, if_pos h, pathL_fuel d s k (nextN d f t - f) f _ (by omega) (by omega), pathL_fuel d s k (t - nextN d f t) _ t (by omega) (by omega)]

/-- Two results: a slice of integers, and an error. -/
def RetInts (w : World) (xs : List Int) (err : Int) (e : Ending) (w' : World) : Prop := ∃ v, e = .returned (.tuple #[v, I err]) ∧ Ints w' v xs ∧ Below w.heap.size w w'
/-- What Path returns. -/
def pathR (d : DLine) (s : Int) : List Int × Int := if askE d (isSt d s) = 0 then (pathL d s d.odds.length 0 d.odds.length, 0) else ([], askE d (isSt d s))

end Go.Proofs.Ytldcehhhndlhdaa
