/- Walks: close. -/
import Derived.Test.YtplbaijdnpfdgaaW2
namespace Go.Proofs.Ytplbaijdnpfdgaa
open Go.RowKit Go.Sort

theorem diagOk_of {ms : List Int} (h : ∀ i, i < 7 → 0 ≤ at_ ms i i) : diagOk ms = true := diagOk_iff.2 h
theorem diagOk_not {ms : List Int} {i : Nat} (hi : i < 7) (h : at_ ms i i < 0) : diagOk ms = false := by
  rw [Bool.eq_false_iff]
  intro hk
  have := diagOk_iff.1 hk i hi
  omega
theorem grown_refl (w : World) (row : Option Nat) : w.grownBy w row := ⟨rfl, rfl, rfl, Nat.le_refl _, fun _ _ _ => rfl⟩

set_option maxRecDepth 20000 in
set_option maxHeartbeats 4000000 in
theorem close_any (B : Nat) (ms : List Int) (w : World) (hm : MatAt w B ms) (hbd : Bd 99 99 ms) :
    Calls Try.prog 99 #[.pointer (some ⟨B, 0, none⟩)] w fun e w' => e = .returned (.bool (diagOk (closeM ms))) ∧ w.grownBy w' (some B) ∧ MatAt w' B (closeM ms) := by
  have HM := Lib.hid hm
  have HBD := Lib.hid hbd
  clear hm hbd
  go_enter Try.func99, Try.ntmps99
  go_wp2_with fail
  go_loopw [7] (fun i wr => ∃ n : Nat, n ≤ 7 ∧ i = I n ∧ Hid (MatAt wr B (closeK ms n)) ∧ Hid (w.grownBy wr (some B))) (fun i _ => 7 - (intOf i).toNat)
  case atStart => exact ⟨0, by omega, rfl, HM, Lib.hid (grown_refl _ _)⟩
  case round =>
    obtain ⟨n, hn, rfl, HM, HG⟩ := hrel
    obtain ⟨wo, rfl⟩ : ∃ wo : World, wo = wr := ⟨_, rfl⟩
    by_cases hlt : n < 7
    · have hlti : (n : Int) < 7 := by omega
      go_wp2_with fail
      go_loopw [10] (fun k wr => ∃ m : Nat, m ≤ 7 ∧ k = I m ∧ Hid (MatAt wr B (closeI n (closeK ms n) m)) ∧ Hid (w.grownBy wr (some B))) (fun k _ => 7 - (intOf k).toNat)
      case atStart => exact ⟨0, by omega, rfl, HM, HG⟩
      case round =>
        obtain ⟨m, hm, rfl, HM, HG⟩ := hrel
        obtain ⟨wp, rfl⟩ : ∃ wp : World, wp = wr := ⟨_, rfl⟩
        by_cases hlm : m < 7
        · have hlmi : (m : Int) < 7 := by omega
          go_wp2_with fail
          go_loopw [13] (fun k wr => ∃ q : Nat, q ≤ 7 ∧ k = I q ∧ Hid (MatAt wr B (closeJ n m (closeI n (closeK ms n) m) q)) ∧ Hid (w.grownBy wr (some B))) (fun k _ => 7 - (intOf k).toNat)
          case atStart => exact ⟨0, by omega, rfl, HM, HG⟩
          case round =>
            obtain ⟨q, hq, rfl, HM, HG⟩ := hrel
            by_cases hlq : q < 7
            · have hlqi : (q : Int) < 7 := by omega
              have hbd := close_small HBD.out (by omega) (by omega) (by omega) (by omega) (k := n) (i := m) (j := q) hlt hlm (by omega)
              have hlen : (closeJ n m (closeI n (closeK ms n) m) q).length = 49 := by rw [closeJ_len, closeI_len, closeK_len]; exact HBD.out.len
              have hstep : closeJ n m (closeI n (closeK ms n) m) (q + 1) = relax n m q (closeJ n m (closeI n (closeK ms n) m) q) := rfl
              generalize closeJ n m (closeI n (closeK ms n) m) q = M at HM hbd hlen hstep
              have hb1 := hbd m n hlm hlt
              have hb2 := hbd n q hlt hlq
              have HL := Lib.hid hlen
              have HS := Lib.hid hstep
              have hc1 := HM.out.cell m n (by rw [hlen]; omega)
              have hc2 := HM.out.cell n q (by rw [hlen]; omega)
              clear hbd hlen hstep
              by_cases g1 : at_ M m n < 1048576
              · by_cases g2 : at_ M n q < 1048576
                · have HR := Lib.hid (show relax n m q M = leave M m q (at_ M m n + at_ M n q) by unfold relax; rw [if_pos ⟨g1, g2⟩])
                  go_wp2_with fail
                  refine wp_region_seg [] [0, 1, 2, 3, 4, 5, 6, 7, 8, 9, 10, 11, 12, 13, 14, 15, 16, 17] [18] 18 (by kernel_rfl) (by kernel_rfl) ?_
                  intro KQ hKQ w1 hb
                  have HM1 := Lib.hid (HM.out.below hb)
                  have HG1 := Lib.hid (grown_trans' HG.out (grown_of_below hb _))
                  have k1 := cell_regrown (keep_cell hb hc1)
                  have k2 := cell_regrown (keep_cell hb hc2)
                  have i1 : IntKind.i64.wrap (at_ M m n + at_ M n q) = at_ M m n + at_ M n q := IntWalk.i64_in _ (by omega)
                  clear hc1 hc2
                  refine seg_last ?_
                  simp only [opsAt, List.filterMap_cons, List.filterMap_nil, List.getElem?_toArray, List.getElem?_cons_succ, List.getElem?_cons_zero]
                  repeat (first | go_big_quiet_step (fail) | quiet_step (fail))
                  refine wpQuiet_nil ?_
                  clear k1 k2 i1
                  go_wp2_with fail
                  refine (leave_any B m q (at_ M m n + at_ M n q) _ _ HM1.out HL.out (by omega) (by omega) (by omega) (by omega)).mono ?_
                  rintro e w2 ⟨rfl, hg2, hm2⟩
                  have HG2 := Lib.hid (grown_trans' HG1.out hg2)
                  have HM2 := Lib.hid hm2
                  clear hg2 hm2
                  go_wp2_with fail
                  go_roundw
                  case rel => exact ⟨q + 1, by omega, by go_num, Lib.hid (by rw [HS.out, HR.out]; exact HM2.out), HG2⟩
                  case measure => simp [intOf]; omega
                · have HR := Lib.hid (show relax n m q M = M by unfold relax; rw [if_neg (by omega)])
                  have g2' : decide (at_ M n q < 1048576) = false := by simpa using g2
                  clear g2
                  go_wp2_with fail
                  go_roundw
                  case rel => exact ⟨q + 1, by omega, by go_num, Lib.hid (by rw [HS.out, HR.out]; exact HM.out), HG⟩
                  case measure => simp [intOf]; omega
              · have HR := Lib.hid (show relax n m q M = M by unfold relax; rw [if_neg (by omega)])
                have g1' : decide (at_ M m n < 1048576) = false := by simpa using g1
                clear g1
                go_wp2_with fail
                go_roundw
                case rel => exact ⟨q + 1, by omega, by go_num, Lib.hid (by rw [HS.out, HR.out]; exact HM.out), HG⟩
                case measure => simp [intOf]; omega
            · have hlqi : ¬ (q : Int) < 7 := by omega
              obtain rfl : q = 7 := by omega
              go_wp2_with fail
              go_roundw
              case rel => exact ⟨m + 1, by omega, by go_num, HM, HG⟩
              case measure => simp [intOf]; omega
        · have hlmi : ¬ (m : Int) < 7 := by omega
          obtain rfl : m = 7 := by omega
          go_wp2_with fail
          go_roundw
          case rel => exact ⟨n + 1, by omega, by go_num, HM, HG⟩
          case measure => simp [intOf]; omega
    · have hlti : ¬ (n : Int) < 7 := by omega
      obtain rfl : n = 7 := by omega
      have HM := Lib.hid (show MatAt wo B (closeM ms) from HM.out)
      have HL := Lib.hid (show (closeM ms).length = 49 by rw [closeM_len]; exact HBD.out.len)
      go_wp2_with fail
      go_loopw [56] (fun k wr => ∃ q : Nat, q ≤ 7 ∧ k = I q ∧ Hid (∀ i, i < q → 0 ≤ at_ (closeM ms) i i) ∧ Hid (MatAt wr B (closeM ms)) ∧ Hid (w.grownBy wr (some B))) (fun k _ => 7 - (intOf k).toNat)
      case atStart => exact ⟨0, by omega, rfl, Lib.hid (fun i hi => by omega), HM, HG⟩
      case round =>
        obtain ⟨q, hq, rfl, HQ, HM, HG⟩ := hrel
        by_cases hlq : q < 7
        · have hlqi : (q : Int) < 7 := by omega
          have hc := HM.out.cell q q (by rw [HL.out]; omega)
          by_cases g : at_ (closeM ms) q q < 0
          · have HD := Lib.hid (diagOk_not hlq g)
            go_wp2_with fail
            go_ret
            exact ⟨by rw [HD.out]; rfl, HG.out, HM.out⟩
          · have HNN := Lib.hid (show 0 ≤ at_ (closeM ms) q q by omega)
            go_wp2_with fail
            go_roundw
            case rel =>
              refine ⟨q + 1, by omega, by go_num, Lib.hid (fun i hi => ?_), HM, HG⟩
              by_cases e : i = q
              · subst e; exact HNN.out
              · exact HQ.out i (by omega)
            case measure => simp [intOf]; omega
        · have hlqi : ¬ (q : Int) < 7 := by omega
          obtain rfl : q = 7 := by omega
          have HD := Lib.hid (diagOk_of HQ.out)
          go_wp2_with fail
          go_ret
          exact ⟨by rw [HD.out]; rfl, HG.out, HM.out⟩
end Go.Proofs.Ytplbaijdnpfdgaa
