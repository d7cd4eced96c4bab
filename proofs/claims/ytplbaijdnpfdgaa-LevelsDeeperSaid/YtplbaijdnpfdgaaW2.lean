/- Walks: rock. -/
import Derived.Test.YtplbaijdnpfdgaaW1
namespace Go.Proofs.Ytplbaijdnpfdgaa
open Go.RowKit Go.Sort

theorem below_grown {n B : Nat} {a b c : World} (h : Below n a b) (hg : b.grownBy c (some B)) (hB : n ≤ B) (hn : n ≤ b.heap.size) : Below n a c :=
  h.trans ⟨hg.os, hg.tape, hg.output, hg.size, fun k hk => hg.block k (by omega) (fun e => by injection e with e; omega)⟩
/-- The bounds while the diagonal is left out. -/
def rock0To (n : Nat) : List Int := (List.range 49).map fun p => if p < n ∧ p / 7 ≠ p % 7 then 1048576 else 0
theorem rock0To_len (n : Nat) : (rock0To n).length = 49 := by simp [rock0To]
theorem rock0To_all : rock0To 49 = rock0 := by decide +kernel
theorem rock0To_zero : rock0To 0 = List.replicate 49 0 := by decide +kernel
theorem rock0To_ne {i k : Nat} (hk : k < 7) (h : i ≠ k) : (rock0To (7 * i + k)).set (7 * i + k) 1048576 = rock0To (7 * i + (k + 1)) := by
  apply List.ext_getElem
  · simp [rock0To]
  · intro p h1 h2
    rw [List.getElem_set]
    simp only [rock0To, List.getElem_map, List.getElem_range]
    split
    · rename_i e
      rw [if_pos (by omega)]
    · rename_i e
      by_cases hc : p < 7 * i + k ∧ p / 7 ≠ p % 7
      · rw [if_pos hc, if_pos (by omega)]
      · rw [if_neg hc, if_neg (by omega)]
theorem rock0To_eq (i : Nat) (h : i < 7) : rock0To (7 * i + (i + 1)) = rock0To (7 * i + i) := by
  apply List.ext_getElem
  · simp [rock0To]
  · intro p h1 h2
    simp only [rock0To, List.getElem_map, List.getElem_range]
    by_cases hc : p < 7 * i + i ∧ p / 7 ≠ p % 7
    · rw [if_pos hc, if_pos (by omega)]
    · rw [if_neg hc, if_neg (by omega)]

set_option maxRecDepth 20000 in
set_option maxHeartbeats 2000000 in
theorem rock_any (W : Int) (w : World) (h0 : 0 ≤ W) (h6 : W ≤ 6) :
    Calls Try.prog 78 #[I W] w fun e w' => e = .returned (.pointer (some ⟨w.heap.size, 0, none⟩)) ∧ MatAt w' w.heap.size (rock W) ∧ Below w.heap.size w w' := by
  obtain ⟨W, rfl⟩ := Int.eq_ofNat_of_zero_le h0
  have hm0 : MatAt (w.alloc (.cells (List.replicate 49 (I 0)).toArray 113)) w.heap.size (rock0To 0) := by
    unfold MatAt
    rw [rock0To_zero, List.map_replicate]
    exact heap_alloc_new w _
  have hb0 : Below w.heap.size w (w.alloc (.cells (List.replicate 49 (I 0)).toArray 113)) := (Below.refl _ _).alloc (Nat.le_refl _) _
  have HM0 := Lib.hid hm0
  have HB0 := Lib.hid hb0
  clear hm0 hb0
  go_enter Try.func78, Try.ntmps78
  go_wp2_with fail
  go_loopw [9] (fun i wr => ∃ n : Nat, n ≤ 7 ∧ i = I n ∧ Hid (MatAt wr w.heap.size (rock0To (7 * n))) ∧ Hid (Below w.heap.size w wr)) (fun i _ => 7 - (intOf i).toNat)
  case atStart => exact ⟨0, by omega, rfl, HM0, HB0⟩
  case round =>
    obtain ⟨n, hn, rfl, HM, HB⟩ := hrel
    obtain ⟨wo, rfl⟩ : ∃ wo : World, wo = wr := ⟨_, rfl⟩
    by_cases hlt : n < 7
    · have hlti : (n : Int) < 7 := by omega
      go_wp2_with fail
      go_loopw [12] (fun k wr => ∃ m : Nat, m ≤ 7 ∧ k = I m ∧ Hid (MatAt wr w.heap.size (rock0To (7 * n + m))) ∧ Hid (Below w.heap.size w wr)) (fun k _ => 7 - (intOf k).toNat)
      case atStart => exact ⟨0, by omega, rfl, HM, HB⟩
      case round =>
        obtain ⟨m, hm, rfl, HM, HB⟩ := hrel
        by_cases hlm : m < 7
        · have hlmi : (m : Int) < 7 := by omega
          by_cases hnm : n = m
          · have hb : ((n : Int) != (m : Int)) = false := by simp [hnm]
            have HE := Lib.hid hnm
            clear hnm
            go_wp2_with fail
            go_roundw
            case rel => exact ⟨m + 1, by omega, by go_num, by have e := rock0To_eq m hlm; rw [HE.out, e]; rw [HE.out] at HM; exact HM, HB⟩
            case measure => simp [intOf]; omega
          · have hb : ((n : Int) != (m : Int)) = true := by simp; omega
            have HN := Lib.hid hnm
            clear hnm
            have hc := HM.out.cell n m (by rw [rock0To_len]; omega)
            have hz := HM.out.free (n * 7 + m)
            go_wp2_with fail
            go_roundw
            case rel =>
              refine ⟨m + 1, by omega, by go_num, ?_, Lib.hid (HB.out.setCell (by simp) _)⟩
              have := HM.out.set n m 1048576
              rw [rock0To_ne hlm HN.out] at this
              exact Lib.hid this
            case measure => simp [intOf]; omega
        · have hlmi : ¬ (m : Int) < 7 := by omega
          obtain rfl : m = 7 := by omega
          go_wp2_with fail
          go_roundw
          case rel => exact ⟨n + 1, by omega, by go_num, HM, HB⟩
          case measure => simp [intOf]; omega
    · have hlti : ¬ (n : Int) < 7 := by omega
      obtain rfl : n = 7 := by omega
      have HM := Lib.hid (show MatAt wo w.heap.size (rockTo rock0 0) from by have := HM.out; rw [rock0To_all] at this; exact this)
      go_wp2_with fail
      go_loopw [27] (fun u wr => ∃ n : Nat, n ≤ W ∧ u = I n ∧ Hid (MatAt wr w.heap.size (rockTo rock0 n)) ∧ Hid (Below w.heap.size w wr)) (fun u _ => W - (intOf u).toNat)
      case atStart => exact ⟨0, by omega, rfl, HM, HB⟩
      case round =>
        obtain ⟨n, hn, rfl, HM, HB⟩ := hrel
        by_cases hlt : n < W
        · have hlti : (n : Int) < (W : Int) := by omega
          have hn6 : (n : Int) < 6 := by omega
          have HL := Lib.hid (show (rockTo rock0 n).length = 49 by rw [rockTo_len]; rfl)
          go_wp2_with fail
          refine (leave_any w.heap.size 6 n 99 _ _ HM.out HL.out (by omega) (by omega) (by omega) (by omega)).mono ?_
          rintro e w1 ⟨rfl, hg1, hm1⟩
          have HB1 := Lib.hid (below_grown HB.out hg1 (Nat.le_refl _) HB.out.size)
          have HM1 := Lib.hid hm1
          clear hg1 hm1
          go_wp2_with fail
          refine (leave_any w.heap.size n 6 0 _ _ HM1.out (by rw [leave_len]; exact HL.out) (by omega) (by omega) (by omega) (by omega)).mono ?_
          rintro e w2 ⟨rfl, hg2, hm2⟩
          have HB2 := Lib.hid (below_grown HB1.out hg2 (Nat.le_refl _) HB1.out.size)
          have HM2 := Lib.hid hm2
          clear hg2 hm2
          go_wp2_with fail
          go_roundw
          case rel => exact ⟨n + 1, by omega, by go_num, HM2, HB2⟩
          case measure => simp [intOf]; omega
        · have hlti : ¬ (n : Int) < (W : Int) := by omega
          have hnW : n = W := by omega
          have HM := Lib.hid (show MatAt wr w.heap.size (rock W) from by have := HM.out; rw [hnW] at this; exact this)
          clear hnW
          go_wp2_with fail
          go_ret
          exact ⟨rfl, HM.out, HB.out⟩
end Go.Proofs.Ytplbaijdnpfdgaa
