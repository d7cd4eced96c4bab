/- The law LevelsMore walked. -/
import Derived.Test.YtplbaijdnpfdgaaV1
namespace Go.Proofs.Ytplbaijdnpfdgaa
open Go.RowKit Go.Sort

set_option maxRecDepth 100000 in
set_option maxHeartbeats 8000000 in
theorem lawMore_any (v : Value) (t : Twn) (s : Snd) (p : Slp) (x y z u : Int) (w : World) (hv : TwnAt w v t) :
    Calls Try.prog 12 #[v, .agg #[I s.well, I s.low, I s.high, I p.a, I p.b, I p.low, I p.high], .agg #[I x, I y, I z, I u]] w fun e w' => e = .returned (.bool true) ∧ Below w.heap.size w w' := by
  obtain ⟨j0, ki, kz0, kz1, kz2⟩ := info_parts (P := Try.prog) (e := 47) (z := .agg #[.int .i64 0, .int .i64 0, .int .i64 0, .int .i64 0]) (size := 4) (bytes := 32) (by kernel_rfl)
  obtain ⟨sv, pv, rfl, hs, hp⟩ := hv
  have HSN := Lib.hid hs
  have HSP := Lib.hid hp
  obtain ⟨A1, c1, rfl, -, -, -⟩ := id hs.open_
  obtain ⟨A2, c2, rfl, -, -, -⟩ := id hp.open_
  clear hs hp
  have S := Lib.hid (show St w (((w.alloc (.cells #[I t.wells, .slice A1 t.snd.length c1, .slice A2 t.slp.length c2] 25)).alloc (.cells #[I s.well, I s.low, I s.high, I p.a, I p.b, I p.low, I p.high] 70)).alloc (.cells #[I x, I y, I z, I u] 38)) (w.heap.size + 1 + 1 + 1) [.box (w.heap.size + 1 + 1) [I x, I y, I z, I u], .box (w.heap.size + 1) [I s.well, I s.low, I s.high, I p.a, I p.b, I p.low, I p.high], .box w.heap.size [I t.wells, .slice A1 t.snd.length c1, .slice A2 t.slp.length c2]] from (((St.init w).alloc [I t.wells, .slice A1 t.snd.length c1, .slice A2 t.slp.length c2] 25).alloc [I s.well, I s.low, I s.high, I p.a, I p.b, I p.low, I p.high] 70).alloc [I x, I y, I z, I u] 38)
  cases hr : readyB t
  · have HR := Lib.hid hr
    clear hr
    go_enter Try.func12, Try.ntmps12
    have q_town0 := S.out.get 2 0 rfl rfl
    have q_town1 := S.out.get 2 1 rfl rfl
    have q_town2 := S.out.get 2 2 rfl rfl
    have q_ask0 := S.out.get 0 0 rfl rfl
    have q_ask1 := S.out.get 0 1 rfl rfl
    go_wp2_with fail
    refine (ready_any _ t _ ⟨_, _, rfl, HSN.out.below S.out.bel, HSP.out.below S.out.bel⟩).mono ?_
    rintro e w1 ⟨rfl, hb⟩
    rw [HR.out]
    have S := Lib.hid (S.out.call hb)
    clear hb
    clear q_town0 q_town1 q_town2 q_ask0 q_ask1
    have q_town0 := S.out.get 2 0 rfl rfl
    have q_town1 := S.out.get 2 1 rfl rfl
    have q_town2 := S.out.get 2 2 rfl rfl
    have q_ask0 := S.out.get 0 0 rfl rfl
    have q_ask1 := S.out.get 0 1 rfl rfl
    go_wp2_with fail
    refine (works_any _).mono ?_
    rintro e w2 ⟨rfl, hb⟩
    have S := Lib.hid (S.out.call hb)
    clear hb
    clear q_town0 q_town1 q_town2 q_ask0 q_ask1
    have q_town0 := S.out.get 2 0 rfl rfl
    have q_town1 := S.out.get 2 1 rfl rfl
    have q_town2 := S.out.get 2 2 rfl rfl
    have q_ask0 := S.out.get 0 0 rfl rfl
    have q_ask1 := S.out.get 0 1 rfl rfl
    go_wp2_with fail
    go_ret
    exact ⟨rfl, S.out.bel⟩
  · have HR := Lib.hid hr
    obtain ⟨hv, h5, -, ht1, ht2⟩ := readyB_true hr
    have hw0 := (valid_vl hv).w0
    have hw6 : t.wells ≤ 1000 := by omega
    have HV := Lib.hid hv
    clear hv h5 hr
    go_enter Try.func12, Try.ntmps12
    have q_town0 := S.out.get 2 0 rfl rfl
    have q_town1 := S.out.get 2 1 rfl rfl
    have q_town2 := S.out.get 2 2 rfl rfl
    have q_ask0 := S.out.get 0 0 rfl rfl
    have q_ask1 := S.out.get 0 1 rfl rfl
    go_wp2_with fail
    refine (ready_any _ t _ ⟨_, _, rfl, HSN.out.below S.out.bel, HSP.out.below S.out.bel⟩).mono ?_
    rintro e w1 ⟨rfl, hb⟩
    rw [HR.out]
    have S := Lib.hid (S.out.call hb)
    clear hb
    clear q_town0 q_town1 q_town2 q_ask0 q_ask1
    have q_town0 := S.out.get 2 0 rfl rfl
    have q_town1 := S.out.get 2 1 rfl rfl
    have q_town2 := S.out.get 2 2 rfl rfl
    have q_ask0 := S.out.get 0 0 rfl rfl
    have q_ask1 := S.out.get 0 1 rfl rfl
    go_wp2_with fail
    cases h : isWell t.wells x
    · have Hx := Lib.hid h
      clear h
      refine (rIsWell_any t.wells x _ _ _ hw0 hw6 ⟨_, _, _, rfl⟩ ⟨_, _, _, rfl⟩).mono ?_
      rintro e w2 ⟨rfl, hb⟩
      rw [show isWell t.wells x = false from Hx.out]
      have S := Lib.hid (S.out.call hb)
      clear hb
      clear q_town0 q_town1 q_town2 q_ask0 q_ask1
      have q_town0 := S.out.get 2 0 rfl rfl
      have q_town1 := S.out.get 2 1 rfl rfl
      have q_town2 := S.out.get 2 2 rfl rfl
      have q_ask0 := S.out.get 0 0 rfl rfl
      have q_ask1 := S.out.get 0 1 rfl rfl
      go_wp2_with fail
      refine (works_any _).mono ?_
      rintro e w3 ⟨rfl, hb⟩
      have S := Lib.hid (S.out.call hb)
      clear hb
      clear q_town0 q_town1 q_town2 q_ask0 q_ask1
      have q_town0 := S.out.get 2 0 rfl rfl
      have q_town1 := S.out.get 2 1 rfl rfl
      have q_town2 := S.out.get 2 2 rfl rfl
      have q_ask0 := S.out.get 0 0 rfl rfl
      have q_ask1 := S.out.get 0 1 rfl rfl
      go_wp2_with fail
      go_ret
      exact ⟨rfl, S.out.bel⟩
    · have Hx := Lib.hid h
      clear h
      refine (rIsWell_any t.wells x _ _ _ hw0 hw6 ⟨_, _, _, rfl⟩ ⟨_, _, _, rfl⟩).mono ?_
      rintro e w2 ⟨rfl, hb⟩
      rw [show isWell t.wells x = true from Hx.out]
      have S := Lib.hid (S.out.call hb)
      clear hb
      clear q_town0 q_town1 q_town2 q_ask0 q_ask1
      have q_town0 := S.out.get 2 0 rfl rfl
      have q_town1 := S.out.get 2 1 rfl rfl
      have q_town2 := S.out.get 2 2 rfl rfl
      have q_ask0 := S.out.get 0 0 rfl rfl
      have q_ask1 := S.out.get 0 1 rfl rfl
      go_wp2_with fail
      cases h : isWell t.wells y
      · have Hy := Lib.hid h
        clear h
        refine (rIsWell_any t.wells y _ _ _ hw0 hw6 ⟨_, _, _, rfl⟩ ⟨_, _, _, rfl⟩).mono ?_
        rintro e w3 ⟨rfl, hb⟩
        rw [show isWell t.wells y = false from Hy.out]
        have S := Lib.hid (S.out.call hb)
        clear hb
        clear q_town0 q_town1 q_town2 q_ask0 q_ask1
        have q_town0 := S.out.get 2 0 rfl rfl
        have q_town1 := S.out.get 2 1 rfl rfl
        have q_town2 := S.out.get 2 2 rfl rfl
        have q_ask0 := S.out.get 0 0 rfl rfl
        have q_ask1 := S.out.get 0 1 rfl rfl
        go_wp2_with fail
        refine (works_any _).mono ?_
        rintro e w4 ⟨rfl, hb⟩
        have S := Lib.hid (S.out.call hb)
        clear hb
        clear q_town0 q_town1 q_town2 q_ask0 q_ask1
        have q_town0 := S.out.get 2 0 rfl rfl
        have q_town1 := S.out.get 2 1 rfl rfl
        have q_town2 := S.out.get 2 2 rfl rfl
        have q_ask0 := S.out.get 0 0 rfl rfl
        have q_ask1 := S.out.get 0 1 rfl rfl
        go_wp2_with fail
        go_ret
        exact ⟨rfl, S.out.bel⟩
      · have Hy := Lib.hid h
        clear h
        refine (rIsWell_any t.wells y _ _ _ hw0 hw6 ⟨_, _, _, rfl⟩ ⟨_, _, _, rfl⟩).mono ?_
        rintro e w3 ⟨rfl, hb⟩
        rw [show isWell t.wells y = true from Hy.out]
        have S := Lib.hid (S.out.call hb)
        clear hb
        clear q_town0 q_town1 q_town2 q_ask0 q_ask1
        have q_town0 := S.out.get 2 0 rfl rfl
        have q_town1 := S.out.get 2 1 rfl rfl
        have q_town2 := S.out.get 2 2 rfl rfl
        have q_ask0 := S.out.get 0 0 rfl rfl
        have q_ask1 := S.out.get 0 1 rfl rfl
        go_wp2_with fail
        rcases openE_cases HV.out with h | h
        · have HO := Lib.hid h
          clear h
          refine (ends_yes _ t _ ⟨_, _, rfl, HSN.out.below S.out.bel, HSP.out.below S.out.bel⟩ HO.out HV.out).mono ?_
          rintro e w4 ⟨u1, u2, rfl, h1, h2, hb⟩
          obtain ⟨B1, d1, rfl, -, -, -⟩ := id h1.open_
          obtain ⟨C1, e1, rfl, -, -, -⟩ := id h2.open_
          have HE1 := Lib.hid h1
          have HE2 := Lib.hid h2
          clear h1 h2
          have S := Lib.hid (S.out.call hb)
          clear hb
          clear q_town0 q_town1 q_town2 q_ask0 q_ask1
          have HX_town0 := Lib.hid (S.out.get 2 0 rfl rfl)
          have HX_town1 := Lib.hid (S.out.get 2 1 rfl rfl)
          have HX_town2 := Lib.hid (S.out.get 2 2 rfl rfl)
          have HX_ask0 := Lib.hid (S.out.get 0 0 rfl rfl)
          have HX_ask1 := Lib.hid (S.out.get 0 1 rfl rfl)
          have HX_more0 := Lib.hid (S.out.get 1 0 rfl rfl)
          have HX_more1 := Lib.hid (S.out.get 1 1 rfl rfl)
          have HX_more2 := Lib.hid (S.out.get 1 2 rfl rfl)
          have HX_more3 := Lib.hid (S.out.get 1 3 rfl rfl)
          have HX_more4 := Lib.hid (S.out.get 1 4 rfl rfl)
          have HX_more5 := Lib.hid (S.out.get 1 5 rfl rfl)
          have HX_more6 := Lib.hid (S.out.get 1 6 rfl rfl)
          have HBW := Lib.hid S.out.bel
          have HSN := Lib.hid (HSN.out.below S.out.bel)
          have HSP := Lib.hid (HSP.out.below S.out.bel)
          have S := Lib.hid (St.init w4)
          have q_town0 := keep_cell S.out.bel HX_town0.out
          have q_town1 := keep_cell S.out.bel HX_town1.out
          have q_town2 := keep_cell S.out.bel HX_town2.out
          have q_more0 := keep_cell S.out.bel HX_more0.out
          have q_more1 := keep_cell S.out.bel HX_more1.out
          have q_more2 := keep_cell S.out.bel HX_more2.out
          go_wp2_with fail
          refine (sounded_any _ t s _ ⟨_, _, rfl, HSN.out.below S.out.bel, HSP.out.below S.out.bel⟩ (by omega) (by omega)).mono ?_
          rintro e w5 ⟨v', rfl, ⟨sv', pv', rfl, ho1, ho2⟩, hb⟩
          obtain ⟨Aa, ca, rfl⟩ := own_shape ho1
          obtain ⟨Ab, cb, rfl⟩ := own_shape ho2
          rw [show (addS t s).wells = t.wells from rfl]
          have S := Lib.hid ((S.out.take2 hb ho1 ho2 (by decide)).alloc [I t.wells, .slice Aa (addS t s).snd.length ca, .slice Ab (addS t s).slp.length cb] 25)
          clear hb
          clear q_town0 q_town1 q_town2 q_more0 q_more1 q_more2
          clear ho1 ho2
          have hta := S.out.lt 0 rfl
          have q_town0 := keep_cell S.out.bel HX_town0.out
          have q_town1 := keep_cell S.out.bel HX_town1.out
          have q_town2 := keep_cell S.out.bel HX_town2.out
          go_wp2_with fail
          refine (copy_any _ t _ ⟨_, _, rfl, HSN.out.below S.out.bel, HSP.out.below S.out.bel⟩ (by omega) (by omega)).mono ?_
          rintro e w6 ⟨v', rfl, ⟨rv', sv', rfl, ho1, ho2⟩, hb⟩
          obtain ⟨Ax, cx, rfl⟩ := own_shape ho1
          obtain ⟨Ay, cy, rfl⟩ := own_shape ho2
          have S := Lib.hid ((S.out.take2 hb ho1 ho2 (by decide)).alloc [I t.wells, .slice Ax t.snd.length cx, .slice Ay t.slp.length cy] 25)
          clear hb
          clear q_town0 q_town1 q_town2
          clear ho1 ho2 hta
          have k0 := keep_cell S.out.bel HX_more3.out
          have k1 := keep_cell S.out.bel HX_more4.out
          have k2 := keep_cell S.out.bel HX_more5.out
          have k3 := keep_cell S.out.bel HX_more6.out
          have k4 := S.out.get 0 2 rfl rfl
          have h63 : t.slp.length + 1 ≤ maxLen := by simp only [maxLen]; omega
          have hby : (t.slp.length + 1) * 32 ≤ 140737488355328 := by omega
          have h02 : 0 < 4 := by decide
          have T := Lib.hid (S.out.alloc [I p.a, I p.b, I p.low, I p.high] 47)
          go_wp2_with (at_builtin; refine wpList_append_St T.out 3 rfl _ _ 23 rfl 47 j0 (.agg #[.int .i64 0, .int .i64 0, .int .i64 0, .int .i64 0]) 4 32 Try.underlying23 ki kz0 kz1 kz2 rfl h02 rfl rfl _ 1 [I p.a, I p.b, I p.low, I p.high] rfl (T.out.boxReads 0 rfl rfl (by omega)) (slps_one [p]) h63 hby ?_; intro vap wap hS5; rw [show t.slp.length + 1 = (addP t p).slp.length from by simp [addP], show slpCells t.slp ++ [I p.a, I p.b, I p.low, I p.high] = slpCells (addP t p).slp from by simp [addP, slpCells_snoc]] at hS5; obtain ⟨A5, c5, rfl⟩ := own_shape (hS5.own 3 rfl); have S := Lib.hid hS5; clear hS5 k0 k1 k2 k3 k4; have u0 := S.out.get 1 2 rfl rfl; have u1 := S.out.free 1 2 rfl; have S := Lib.hid ((S.out.set 1 2 (.slice A5 (addP t p).slp.length c5) rfl).tail))
          clear u0 u1
          have S := Lib.hid (show St w4 _ _ [.box w6.heap.size [I t.wells, .slice Ax t.snd.length cx, .slice A5 (addP t p).slp.length c5], .own 57 3 (.slice Ax t.snd.length cx) t.snd.length (sndCells t.snd), .own 47 4 (.slice A5 (addP t p).slp.length c5) (addP t p).slp.length (slpCells (addP t p).slp), .box w5.heap.size [I t.wells, .slice Aa (addS t s).snd.length ca, .slice Ab (addS t s).slp.length cb], .own 57 3 (.slice Aa (addS t s).snd.length ca) (addS t s).snd.length (sndCells (addS t s).snd), .own 47 4 (.slice Ab (addS t s).slp.length cb) (addS t s).slp.length (slpCells (addS t s).slp)] from S.out.fix)
          go_wp2_with fail
          go_loopw [13] (fun i wr => ∃ k : Nat, k ≤ 2 ∧ i = I k ∧ Hid (St w4 wr wr.heap.size [.box w6.heap.size [I t.wells, .slice Ax t.snd.length cx, .slice A5 (addP t p).slp.length c5], .own 57 3 (.slice Ax t.snd.length cx) t.snd.length (sndCells t.snd), .own 47 4 (.slice A5 (addP t p).slp.length c5) (addP t p).slp.length (slpCells (addP t p).slp), .box w5.heap.size [I t.wells, .slice Aa (addS t s).snd.length ca, .slice Ab (addS t s).slp.length cb], .own 57 3 (.slice Aa (addS t s).snd.length ca) (addS t s).snd.length (sndCells (addS t s).snd), .own 47 4 (.slice Ab (addS t s).slp.length cb) (addS t s).slp.length (slpCells (addS t s).slp)])) (fun i _ => 2 - (intOf i).toNat)
          case atStart => exact ⟨0, by omega, rfl, Lib.hid S.out.fix⟩
          case round =>
            clear S
            obtain ⟨k, hk, rfl, S⟩ := hrel
            obtain ⟨wo, rfl⟩ : ∃ wo : World, wo = wr := ⟨_, rfl⟩
            rcases (show k = 0 ∨ k = 1 ∨ k = 2 by omega) with rfl | rfl | rfl
            · have q_a0 := S.out.get 3 0 rfl rfl
              have q_a1 := S.out.get 3 1 rfl rfl
              have q_a2 := S.out.get 3 2 rfl rfl
              have q_b0 := S.out.get 0 0 rfl rfl
              have q_b1 := S.out.get 0 1 rfl rfl
              have q_b2 := S.out.get 0 2 rfl rfl
              have hlt := S.out.lt 0 rfl
              go_wp2_with fail
              have S := Lib.hid (S.out.alloc [I t.wells, .slice Aa (addS t s).snd.length ca, .slice Ab (addS t s).slp.length cb] 25)
              clear hlt
              clear q_a0 q_a1 q_a2 q_b0 q_b1 q_b2
              have q_o0 := S.out.get 0 0 rfl rfl
              have q_o1 := S.out.get 0 1 rfl rfl
              have q_o2 := S.out.get 0 2 rfl rfl
              go_wp2_with fail
              clear q_o0 q_o1 q_o2
              have HNR := Lib.hid (nar_addS t s)
              cases hro : readyB (addS t s)
              · have HRO := Lib.hid hro
                clear hro
                refine (ready_any _ (addS t s) _ ⟨_, _, rfl, S.out.row 5 rfl, S.out.row 6 rfl⟩).mono ?_
                rintro e w7 ⟨rfl, hb⟩
                rw [HRO.out]
                have S := Lib.hid (S.out.call hb)
                clear hb
                go_wp2_with fail
                go_roundw
                case rel => exact ⟨1, by omega, rfl, Lib.hid S.out.fix.tail⟩
                case measure => simp [intOf]
              · have HRO := Lib.hid hro
                clear hro
                refine (ready_any _ (addS t s) _ ⟨_, _, rfl, S.out.row 5 rfl, S.out.row 6 rfl⟩).mono ?_
                rintro e w7 ⟨rfl, hb⟩
                rw [HRO.out]
                have S := Lib.hid (S.out.call hb)
                clear hb
                have HVO := Lib.hid (readyB_true HRO.out).1
                have q_o0 := S.out.get 0 0 rfl rfl
                have q_o1 := S.out.get 0 1 rfl rfl
                have q_o2 := S.out.get 0 2 rfl rfl
                go_wp2_with fail
                rcases openE_cases HVO.out with h | h
                · have HOO := Lib.hid h
                  clear h
                  refine (ends_yes _ (addS t s) _ ⟨_, _, rfl, S.out.row 5 rfl, S.out.row 6 rfl⟩ HOO.out HVO.out).mono ?_
                  rintro e w8 ⟨u1, u2, rfl, h1, h2, hb⟩
                  obtain ⟨B2, d2, rfl, -, -, -⟩ := id h1.open_
                  obtain ⟨C2, e2, rfl, -, -, -⟩ := id h2.open_
                  have HF1 := Lib.hid h1
                  have HF2 := Lib.hid h2
                  clear h1 h2
                  have S := Lib.hid (S.out.call hb)
                  clear hb
                  clear q_o0 q_o1 q_o2
                  have HC := Lib.hid (Below.refl w8.heap.size w8)
                  have HKE1 := Lib.hid (Ints.below HE1.out S.out.bel)
                  have HKE2 := Lib.hid (Ints.below HE2.out S.out.bel)
                  go_wp2_with fail
                  go_loopw [19] (fun i wq => ∃ j : Nat, j ≤ t.wells.toNat ∧ i = I j ∧ Hid (St w4 wq wq.heap.size [.box wo.heap.size [I t.wells, .slice Aa (addS t s).snd.length ca, .slice Ab (addS t s).slp.length cb], .box w6.heap.size [I t.wells, .slice Ax t.snd.length cx, .slice A5 (addP t p).slp.length c5], .own 57 3 (.slice Ax t.snd.length cx) t.snd.length (sndCells t.snd), .own 47 4 (.slice A5 (addP t p).slp.length c5) (addP t p).slp.length (slpCells (addP t p).slp), .box w5.heap.size [I t.wells, .slice Aa (addS t s).snd.length ca, .slice Ab (addS t s).slp.length cb], .own 57 3 (.slice Aa (addS t s).snd.length ca) (addS t s).snd.length (sndCells (addS t s).snd), .own 47 4 (.slice Ab (addS t s).slp.length cb) (addS t s).slp.length (slpCells (addS t s).slp)]) ∧ Hid (Below w8.heap.size w8 wq)) (fun i _ => t.wells.toNat - (intOf i).toNat)
                  case atStart => exact ⟨0, by omega, rfl, Lib.hid S.out.fix, HC⟩
                  case round =>
                    clear S HC
                    obtain ⟨j, hj, rfl, S, HC⟩ := hrel
                    have q_town0 := keep_cell S.out.bel HX_town0.out
                    by_cases hlt : j < t.wells.toNat
                    · have hjw : (j : Int) < t.wells := by omega
                      have hnar := HNR.out.lvl HOO.out HO.out hjw
                      have hwo : (addS t s).wells = t.wells := rfl
                      obtain ⟨-, hc1⟩ := HKE1.out.at_get rfl
                      obtain ⟨b1, o1, rfl, -, hcell1⟩ := hc1 (by rw [lowL_len]; omega)
                      have y1 := hcell1 j (by rw [lowL_len]; omega)
                      rw [lowL_get hjw] at y1
                      obtain ⟨-, hc2⟩ := HKE2.out.at_get rfl
                      obtain ⟨b2, o2, rfl, -, hcell2⟩ := hc2 (by rw [highL_len]; omega)
                      have y2 := hcell2 j (by rw [highL_len]; omega)
                      rw [highL_get hjw] at y2
                      obtain ⟨-, hc3⟩ := HF1.out.at_get rfl
                      obtain ⟨b3, o3, rfl, -, hcell3⟩ := hc3 (by rw [lowL_len]; omega)
                      have y3 := hcell3 j (by rw [lowL_len]; omega)
                      rw [lowL_get (show (j : Int) < (addS t s).wells from hjw)] at y3
                      obtain ⟨-, hc4⟩ := HF2.out.at_get rfl
                      obtain ⟨b4, o4, rfl, -, hcell4⟩ := hc4 (by rw [highL_len]; omega)
                      have y4 := hcell4 j (by rw [highL_len]; omega)
                      rw [highL_get (show (j : Int) < (addS t s).wells from hjw)] at y4
                      obtain ⟨l1, hl1⟩ : ∃ x, (lvl (closeM (baseM t)) j).low = x := ⟨_, rfl⟩
                      obtain ⟨l2, hl2⟩ : ∃ x, (lvl (closeM (baseM t)) j).high = x := ⟨_, rfl⟩
                      obtain ⟨l3, hl3⟩ : ∃ x, (lvl (closeM (baseM (addS t s))) j).low = x := ⟨_, rfl⟩
                      obtain ⟨l4, hl4⟩ : ∃ x, (lvl (closeM (baseM (addS t s))) j).high = x := ⟨_, rfl⟩
                      rw [hl1, hl2, hl3, hl4] at hnar
                      rw [hl1] at y1
                      rw [hl2] at y2
                      rw [hl3] at y3
                      rw [hl4] at y4
                      have q1 : ¬ l3 < l1 := by omega
                      have q2 : ¬ l2 < l4 := by omega
                      have q3 : (j : Int) < ((lowL t).length : Int) := by rw [lowL_len]; omega
                      have q4 : (j : Int) < ((highL t).length : Int) := by rw [highL_len]; omega
                      have q5 : (j : Int) < ((lowL (addS t s)).length : Int) := by rw [lowL_len]; omega
                      have q6 : (j : Int) < ((highL (addS t s)).length : Int) := by rw [highL_len]; omega
                      have z1 := cell_regrown (keep_cell HC.out y1)
                      have z2 := cell_regrown (keep_cell HC.out y2)
                      have z3 := cell_regrown (keep_cell HC.out y3)
                      have z4 := cell_regrown (keep_cell HC.out y4)
                      clear hc1 hc2 hc3 hc4 hcell1 hcell2 hcell3 hcell4 y1 y2 y3 y4 hl1 hl2 hl3 hl4 hnar hwo
                      go_wp2_with fail
                      clear q_town0
                      refine wp_region_ext (by kernel_rfl) (by kernel_rfl) ?_
                      repeat (first | go_big_quiet_step (fail) | quiet_step (fail))
                      refine wpQuiet_nil ?_
                      clear z1 z2 z3 z4 q3 q4 q5 q6
                      intro w9 hb9
                      have S := Lib.hid (S.out.call hb9)
                      have HC := Lib.hid (bto HC.out hb9)
                      go_wp2_with fail
                      go_roundw
                      case rel => exact ⟨j + 1, by omega, by go_num, S, HC⟩
                      case measure => first | (simp [intOf]; done) | (simp [intOf]; omega)
                    · clear HC
                      obtain ⟨dl, dh, el, eh, kk, nn, hd1, hd2, hk1, hk2, hbo⟩ := HNR.out.both HOO.out HO.out Hx.out Hy.out
                      have HD1 := Lib.hid hd1
                      have HD2 := Lib.hid hd2
                      have HK1 := Lib.hid hk1
                      have HK2 := Lib.hid hk2
                      have HBO := Lib.hid hbo
                      clear hd1 hd2 hk1 hk2 hbo
                      clear q_town0
                      have q_town0 := keep_cell S.out.bel HX_town0.out
                      have q_town1 := keep_cell S.out.bel HX_town1.out
                      have q_town2 := keep_cell S.out.bel HX_town2.out
                      have q_ask0 := keep_cell S.out.bel HX_ask0.out
                      have q_ask1 := keep_cell S.out.bel HX_ask1.out
                      have q_o0 := S.out.get 0 0 rfl rfl
                      have q_o1 := S.out.get 0 1 rfl rfl
                      have q_o2 := S.out.get 0 2 rfl rfl
                      go_wp2_with fail
                      refine (differ_any _ t x y _ ⟨_, _, rfl, HSN.out.below S.out.bel, HSP.out.below S.out.bel⟩).mono ?_
                      rintro e w9 ⟨rfl, hb⟩
                      rw [HD1.out]
                      have S := Lib.hid ((S.out.call hb).alloc [I dl, I dh] 40)
                      clear hb
                      clear q_town0 q_town1 q_town2 q_ask0 q_ask1 q_o0 q_o1 q_o2
                      have q_town0 := keep_cell S.out.bel HX_town0.out
                      have q_town1 := keep_cell S.out.bel HX_town1.out
                      have q_town2 := keep_cell S.out.bel HX_town2.out
                      have q_ask0 := keep_cell S.out.bel HX_ask0.out
                      have q_ask1 := keep_cell S.out.bel HX_ask1.out
                      have q_o0 := S.out.get 1 0 rfl rfl
                      have q_o1 := S.out.get 1 1 rfl rfl
                      have q_o2 := S.out.get 1 2 rfl rfl
                      go_wp2_with fail
                      refine (differ_any _ (addS t s) x y _ ⟨_, _, rfl, S.out.row 6 rfl, S.out.row 7 rfl⟩).mono ?_
                      rintro e w10 ⟨rfl, hb⟩
                      rw [HD2.out]
                      have S := Lib.hid ((S.out.call hb).alloc [I el, I eh] 40)
                      clear hb
                      clear q_town0 q_town1 q_town2 q_ask0 q_ask1 q_o0 q_o1 q_o2
                      have q_town0 := keep_cell S.out.bel HX_town0.out
                      have q_town1 := keep_cell S.out.bel HX_town1.out
                      have q_town2 := keep_cell S.out.bel HX_town2.out
                      have q_ask0 := keep_cell S.out.bel HX_ask0.out
                      have q_ask1 := keep_cell S.out.bel HX_ask1.out
                      have q_o0 := S.out.get 2 0 rfl rfl
                      have q_o1 := S.out.get 2 1 rfl rfl
                      have q_o2 := S.out.get 2 2 rfl rfl
                      go_wp2_with fail
                      refine (higher_any _ t x y _ ⟨_, _, rfl, HSN.out.below S.out.bel, HSP.out.below S.out.bel⟩).mono ?_
                      rintro e w11 ⟨rfl, hb⟩
                      rw [HK1.out]
                      have S := Lib.hid (S.out.call hb)
                      clear hb
                      clear q_town0 q_town1 q_town2 q_ask0 q_ask1 q_o0 q_o1 q_o2
                      have q_town0 := keep_cell S.out.bel HX_town0.out
                      have q_town1 := keep_cell S.out.bel HX_town1.out
                      have q_town2 := keep_cell S.out.bel HX_town2.out
                      have q_ask0 := keep_cell S.out.bel HX_ask0.out
                      have q_ask1 := keep_cell S.out.bel HX_ask1.out
                      have q_o0 := S.out.get 2 0 rfl rfl
                      have q_o1 := S.out.get 2 1 rfl rfl
                      have q_o2 := S.out.get 2 2 rfl rfl
                      go_wp2_with fail
                      refine (higher_any _ (addS t s) x y _ ⟨_, _, rfl, S.out.row 7 rfl, S.out.row 8 rfl⟩).mono ?_
                      rintro e w12 ⟨rfl, hb⟩
                      rw [HK2.out]
                      have S := Lib.hid (S.out.call hb)
                      clear hb
                      clear q_town0 q_town1 q_town2 q_ask0 q_ask1 q_o0 q_o1 q_o2
                      have q_d0 := S.out.get 1 0 rfl rfl
                      have q_d1 := S.out.get 1 1 rfl rfl
                      have q_e0 := S.out.get 0 0 rfl rfl
                      have q_e1 := S.out.get 0 1 rfl rfl
                      go_wp2_with fail
                      have HI := Lib.hid (show insideS ⟨el, eh⟩ ⟨dl, dh⟩ = true by have := HBO.out.ins; simp [insideS]; omega)
                      refine (inside_any ⟨el, eh⟩ ⟨dl, dh⟩ _).mono ?_
                      rintro e w13 ⟨rfl, hb⟩
                      rw [HI.out]
                      have S := Lib.hid (S.out.call hb)
                      clear hb
                      clear q_d0 q_d1 q_e0 q_e1
                      rcases HBO.out.hig with h3 | h3
                      · subst h3
                        go_wp2_with fail
                        go_roundw
                        case rel => exact ⟨1, by omega, rfl, Lib.hid S.out.fix.tail.tail.tail⟩
                        case measure => simp [intOf]
                      · subst h3
                        by_cases h4 : nn = 3
                        · subst h4
                          go_wp2_with fail
                          go_roundw
                          case rel => exact ⟨1, by omega, rfl, Lib.hid S.out.fix.tail.tail.tail⟩
                          case measure => simp [intOf]
                        · have h5 : (nn != 3) = true := by simpa using h4
                          clear h4
                          go_wp2_with fail
                          go_roundw
                          case rel => exact ⟨1, by omega, rfl, Lib.hid S.out.fix.tail.tail.tail⟩
                          case measure => simp [intOf]
                · have HOO := Lib.hid h
                  clear h
                  refine (ends_no _ (addS t s) _ ⟨_, _, rfl, S.out.row 5 rfl, S.out.row 6 rfl⟩ HOO.out).mono ?_
                  rintro e w8 ⟨rfl, hb⟩
                  have S := Lib.hid (S.out.call hb)
                  clear hb
                  clear q_o0 q_o1 q_o2
                  go_wp2_with fail
                  go_roundw
                  case rel => exact ⟨1, by omega, rfl, Lib.hid S.out.fix.tail⟩
                  case measure => simp [intOf]
            · have q_a0 := S.out.get 3 0 rfl rfl
              have q_a1 := S.out.get 3 1 rfl rfl
              have q_a2 := S.out.get 3 2 rfl rfl
              have q_b0 := S.out.get 0 0 rfl rfl
              have q_b1 := S.out.get 0 1 rfl rfl
              have q_b2 := S.out.get 0 2 rfl rfl
              have hlt := S.out.lt 0 rfl
              go_wp2_with fail
              have S := Lib.hid (S.out.alloc [I t.wells, .slice Ax t.snd.length cx, .slice A5 (addP t p).slp.length c5] 25)
              clear hlt
              clear q_a0 q_a1 q_a2 q_b0 q_b1 q_b2
              have q_o0 := S.out.get 0 0 rfl rfl
              have q_o1 := S.out.get 0 1 rfl rfl
              have q_o2 := S.out.get 0 2 rfl rfl
              go_wp2_with fail
              clear q_o0 q_o1 q_o2
              have HNR := Lib.hid (nar_addP t p)
              cases hro : readyB (addP t p)
              · have HRO := Lib.hid hro
                clear hro
                refine (ready_any _ (addP t p) _ ⟨_, _, rfl, S.out.row 2 rfl, S.out.row 3 rfl⟩).mono ?_
                rintro e w7 ⟨rfl, hb⟩
                rw [HRO.out]
                have S := Lib.hid (S.out.call hb)
                clear hb
                go_wp2_with fail
                go_roundw
                case rel => exact ⟨2, by omega, rfl, Lib.hid S.out.fix.tail⟩
                case measure => simp [intOf]
              · have HRO := Lib.hid hro
                clear hro
                refine (ready_any _ (addP t p) _ ⟨_, _, rfl, S.out.row 2 rfl, S.out.row 3 rfl⟩).mono ?_
                rintro e w7 ⟨rfl, hb⟩
                rw [HRO.out]
                have S := Lib.hid (S.out.call hb)
                clear hb
                have HVO := Lib.hid (readyB_true HRO.out).1
                have q_o0 := S.out.get 0 0 rfl rfl
                have q_o1 := S.out.get 0 1 rfl rfl
                have q_o2 := S.out.get 0 2 rfl rfl
                go_wp2_with fail
                rcases openE_cases HVO.out with h | h
                · have HOO := Lib.hid h
                  clear h
                  refine (ends_yes _ (addP t p) _ ⟨_, _, rfl, S.out.row 2 rfl, S.out.row 3 rfl⟩ HOO.out HVO.out).mono ?_
                  rintro e w8 ⟨u1, u2, rfl, h1, h2, hb⟩
                  obtain ⟨B2, d2, rfl, -, -, -⟩ := id h1.open_
                  obtain ⟨C2, e2, rfl, -, -, -⟩ := id h2.open_
                  have HF1 := Lib.hid h1
                  have HF2 := Lib.hid h2
                  clear h1 h2
                  have S := Lib.hid (S.out.call hb)
                  clear hb
                  clear q_o0 q_o1 q_o2
                  have HC := Lib.hid (Below.refl w8.heap.size w8)
                  have HKE1 := Lib.hid (Ints.below HE1.out S.out.bel)
                  have HKE2 := Lib.hid (Ints.below HE2.out S.out.bel)
                  go_wp2_with fail
                  go_loopw [19] (fun i wq => ∃ j : Nat, j ≤ t.wells.toNat ∧ i = I j ∧ Hid (St w4 wq wq.heap.size [.box wo.heap.size [I t.wells, .slice Ax t.snd.length cx, .slice A5 (addP t p).slp.length c5], .box w6.heap.size [I t.wells, .slice Ax t.snd.length cx, .slice A5 (addP t p).slp.length c5], .own 57 3 (.slice Ax t.snd.length cx) t.snd.length (sndCells t.snd), .own 47 4 (.slice A5 (addP t p).slp.length c5) (addP t p).slp.length (slpCells (addP t p).slp), .box w5.heap.size [I t.wells, .slice Aa (addS t s).snd.length ca, .slice Ab (addS t s).slp.length cb], .own 57 3 (.slice Aa (addS t s).snd.length ca) (addS t s).snd.length (sndCells (addS t s).snd), .own 47 4 (.slice Ab (addS t s).slp.length cb) (addS t s).slp.length (slpCells (addS t s).slp)]) ∧ Hid (Below w8.heap.size w8 wq)) (fun i _ => t.wells.toNat - (intOf i).toNat)
                  case atStart => exact ⟨0, by omega, rfl, Lib.hid S.out.fix, HC⟩
                  case round =>
                    clear S HC
                    obtain ⟨j, hj, rfl, S, HC⟩ := hrel
                    have q_town0 := keep_cell S.out.bel HX_town0.out
                    by_cases hlt : j < t.wells.toNat
                    · have hjw : (j : Int) < t.wells := by omega
                      have hnar := HNR.out.lvl HOO.out HO.out hjw
                      have hwo : (addP t p).wells = t.wells := rfl
                      obtain ⟨-, hc1⟩ := HKE1.out.at_get rfl
                      obtain ⟨b1, o1, rfl, -, hcell1⟩ := hc1 (by rw [lowL_len]; omega)
                      have y1 := hcell1 j (by rw [lowL_len]; omega)
                      rw [lowL_get hjw] at y1
                      obtain ⟨-, hc2⟩ := HKE2.out.at_get rfl
                      obtain ⟨b2, o2, rfl, -, hcell2⟩ := hc2 (by rw [highL_len]; omega)
                      have y2 := hcell2 j (by rw [highL_len]; omega)
                      rw [highL_get hjw] at y2
                      obtain ⟨-, hc3⟩ := HF1.out.at_get rfl
                      obtain ⟨b3, o3, rfl, -, hcell3⟩ := hc3 (by rw [lowL_len]; omega)
                      have y3 := hcell3 j (by rw [lowL_len]; omega)
                      rw [lowL_get (show (j : Int) < (addP t p).wells from hjw)] at y3
                      obtain ⟨-, hc4⟩ := HF2.out.at_get rfl
                      obtain ⟨b4, o4, rfl, -, hcell4⟩ := hc4 (by rw [highL_len]; omega)
                      have y4 := hcell4 j (by rw [highL_len]; omega)
                      rw [highL_get (show (j : Int) < (addP t p).wells from hjw)] at y4
                      obtain ⟨l1, hl1⟩ : ∃ x, (lvl (closeM (baseM t)) j).low = x := ⟨_, rfl⟩
                      obtain ⟨l2, hl2⟩ : ∃ x, (lvl (closeM (baseM t)) j).high = x := ⟨_, rfl⟩
                      obtain ⟨l3, hl3⟩ : ∃ x, (lvl (closeM (baseM (addP t p))) j).low = x := ⟨_, rfl⟩
                      obtain ⟨l4, hl4⟩ : ∃ x, (lvl (closeM (baseM (addP t p))) j).high = x := ⟨_, rfl⟩
                      rw [hl1, hl2, hl3, hl4] at hnar
                      rw [hl1] at y1
                      rw [hl2] at y2
                      rw [hl3] at y3
                      rw [hl4] at y4
                      have q1 : ¬ l3 < l1 := by omega
                      have q2 : ¬ l2 < l4 := by omega
                      have q3 : (j : Int) < ((lowL t).length : Int) := by rw [lowL_len]; omega
                      have q4 : (j : Int) < ((highL t).length : Int) := by rw [highL_len]; omega
                      have q5 : (j : Int) < ((lowL (addP t p)).length : Int) := by rw [lowL_len]; omega
                      have q6 : (j : Int) < ((highL (addP t p)).length : Int) := by rw [highL_len]; omega
                      have z1 := cell_regrown (keep_cell HC.out y1)
                      have z2 := cell_regrown (keep_cell HC.out y2)
                      have z3 := cell_regrown (keep_cell HC.out y3)
                      have z4 := cell_regrown (keep_cell HC.out y4)
                      clear hc1 hc2 hc3 hc4 hcell1 hcell2 hcell3 hcell4 y1 y2 y3 y4 hl1 hl2 hl3 hl4 hnar hwo
                      go_wp2_with fail
                      clear q_town0
                      refine wp_region_ext (by kernel_rfl) (by kernel_rfl) ?_
                      repeat (first | go_big_quiet_step (fail) | quiet_step (fail))
                      refine wpQuiet_nil ?_
                      clear z1 z2 z3 z4 q3 q4 q5 q6
                      intro w9 hb9
                      have S := Lib.hid (S.out.call hb9)
                      have HC := Lib.hid (bto HC.out hb9)
                      go_wp2_with fail
                      go_roundw
                      case rel => exact ⟨j + 1, by omega, by go_num, S, HC⟩
                      case measure => first | (simp [intOf]; done) | (simp [intOf]; omega)
                    · clear HC
                      obtain ⟨dl, dh, el, eh, kk, nn, hd1, hd2, hk1, hk2, hbo⟩ := HNR.out.both HOO.out HO.out Hx.out Hy.out
                      have HD1 := Lib.hid hd1
                      have HD2 := Lib.hid hd2
                      have HK1 := Lib.hid hk1
                      have HK2 := Lib.hid hk2
                      have HBO := Lib.hid hbo
                      clear hd1 hd2 hk1 hk2 hbo
                      clear q_town0
                      have q_town0 := keep_cell S.out.bel HX_town0.out
                      have q_town1 := keep_cell S.out.bel HX_town1.out
                      have q_town2 := keep_cell S.out.bel HX_town2.out
                      have q_ask0 := keep_cell S.out.bel HX_ask0.out
                      have q_ask1 := keep_cell S.out.bel HX_ask1.out
                      have q_o0 := S.out.get 0 0 rfl rfl
                      have q_o1 := S.out.get 0 1 rfl rfl
                      have q_o2 := S.out.get 0 2 rfl rfl
                      go_wp2_with fail
                      refine (differ_any _ t x y _ ⟨_, _, rfl, HSN.out.below S.out.bel, HSP.out.below S.out.bel⟩).mono ?_
                      rintro e w9 ⟨rfl, hb⟩
                      rw [HD1.out]
                      have S := Lib.hid ((S.out.call hb).alloc [I dl, I dh] 40)
                      clear hb
                      clear q_town0 q_town1 q_town2 q_ask0 q_ask1 q_o0 q_o1 q_o2
                      have q_town0 := keep_cell S.out.bel HX_town0.out
                      have q_town1 := keep_cell S.out.bel HX_town1.out
                      have q_town2 := keep_cell S.out.bel HX_town2.out
                      have q_ask0 := keep_cell S.out.bel HX_ask0.out
                      have q_ask1 := keep_cell S.out.bel HX_ask1.out
                      have q_o0 := S.out.get 1 0 rfl rfl
                      have q_o1 := S.out.get 1 1 rfl rfl
                      have q_o2 := S.out.get 1 2 rfl rfl
                      go_wp2_with fail
                      refine (differ_any _ (addP t p) x y _ ⟨_, _, rfl, S.out.row 3 rfl, S.out.row 4 rfl⟩).mono ?_
                      rintro e w10 ⟨rfl, hb⟩
                      rw [HD2.out]
                      have S := Lib.hid ((S.out.call hb).alloc [I el, I eh] 40)
                      clear hb
                      clear q_town0 q_town1 q_town2 q_ask0 q_ask1 q_o0 q_o1 q_o2
                      have q_town0 := keep_cell S.out.bel HX_town0.out
                      have q_town1 := keep_cell S.out.bel HX_town1.out
                      have q_town2 := keep_cell S.out.bel HX_town2.out
                      have q_ask0 := keep_cell S.out.bel HX_ask0.out
                      have q_ask1 := keep_cell S.out.bel HX_ask1.out
                      have q_o0 := S.out.get 2 0 rfl rfl
                      have q_o1 := S.out.get 2 1 rfl rfl
                      have q_o2 := S.out.get 2 2 rfl rfl
                      go_wp2_with fail
                      refine (higher_any _ t x y _ ⟨_, _, rfl, HSN.out.below S.out.bel, HSP.out.below S.out.bel⟩).mono ?_
                      rintro e w11 ⟨rfl, hb⟩
                      rw [HK1.out]
                      have S := Lib.hid (S.out.call hb)
                      clear hb
                      clear q_town0 q_town1 q_town2 q_ask0 q_ask1 q_o0 q_o1 q_o2
                      have q_town0 := keep_cell S.out.bel HX_town0.out
                      have q_town1 := keep_cell S.out.bel HX_town1.out
                      have q_town2 := keep_cell S.out.bel HX_town2.out
                      have q_ask0 := keep_cell S.out.bel HX_ask0.out
                      have q_ask1 := keep_cell S.out.bel HX_ask1.out
                      have q_o0 := S.out.get 2 0 rfl rfl
                      have q_o1 := S.out.get 2 1 rfl rfl
                      have q_o2 := S.out.get 2 2 rfl rfl
                      go_wp2_with fail
                      refine (higher_any _ (addP t p) x y _ ⟨_, _, rfl, S.out.row 4 rfl, S.out.row 5 rfl⟩).mono ?_
                      rintro e w12 ⟨rfl, hb⟩
                      rw [HK2.out]
                      have S := Lib.hid (S.out.call hb)
                      clear hb
                      clear q_town0 q_town1 q_town2 q_ask0 q_ask1 q_o0 q_o1 q_o2
                      have q_d0 := S.out.get 1 0 rfl rfl
                      have q_d1 := S.out.get 1 1 rfl rfl
                      have q_e0 := S.out.get 0 0 rfl rfl
                      have q_e1 := S.out.get 0 1 rfl rfl
                      go_wp2_with fail
                      have HI := Lib.hid (show insideS ⟨el, eh⟩ ⟨dl, dh⟩ = true by have := HBO.out.ins; simp [insideS]; omega)
                      refine (inside_any ⟨el, eh⟩ ⟨dl, dh⟩ _).mono ?_
                      rintro e w13 ⟨rfl, hb⟩
                      rw [HI.out]
                      have S := Lib.hid (S.out.call hb)
                      clear hb
                      clear q_d0 q_d1 q_e0 q_e1
                      rcases HBO.out.hig with h3 | h3
                      · subst h3
                        go_wp2_with fail
                        go_roundw
                        case rel => exact ⟨2, by omega, rfl, Lib.hid S.out.fix.tail.tail.tail⟩
                        case measure => simp [intOf]
                      · subst h3
                        by_cases h4 : nn = 3
                        · subst h4
                          go_wp2_with fail
                          go_roundw
                          case rel => exact ⟨2, by omega, rfl, Lib.hid S.out.fix.tail.tail.tail⟩
                          case measure => simp [intOf]
                        · have h5 : (nn != 3) = true := by simpa using h4
                          clear h4
                          go_wp2_with fail
                          go_roundw
                          case rel => exact ⟨2, by omega, rfl, Lib.hid S.out.fix.tail.tail.tail⟩
                          case measure => simp [intOf]
                · have HOO := Lib.hid h
                  clear h
                  refine (ends_no _ (addP t p) _ ⟨_, _, rfl, S.out.row 2 rfl, S.out.row 3 rfl⟩ HOO.out).mono ?_
                  rintro e w8 ⟨rfl, hb⟩
                  have S := Lib.hid (S.out.call hb)
                  clear hb
                  clear q_o0 q_o1 q_o2
                  go_wp2_with fail
                  go_roundw
                  case rel => exact ⟨2, by omega, rfl, Lib.hid S.out.fix.tail⟩
                  case measure => simp [intOf]
            · go_wp2_with fail
              refine (works_any _).mono ?_
              rintro e w7 ⟨rfl, hb⟩
              have S := Lib.hid (S.out.call hb)
              clear hb
              go_wp2_with fail
              go_ret
              exact ⟨rfl, bto HBW.out S.out.bel⟩
        · have HO := Lib.hid h
          clear h
          refine (ends_no _ t _ ⟨_, _, rfl, HSN.out.below S.out.bel, HSP.out.below S.out.bel⟩ HO.out).mono ?_
          rintro e w4 ⟨rfl, hb⟩
          have S := Lib.hid (S.out.call hb)
          clear hb
          clear q_town0 q_town1 q_town2 q_ask0 q_ask1
          have HX_town0 := Lib.hid (S.out.get 2 0 rfl rfl)
          have HX_town1 := Lib.hid (S.out.get 2 1 rfl rfl)
          have HX_town2 := Lib.hid (S.out.get 2 2 rfl rfl)
          have HX_ask0 := Lib.hid (S.out.get 0 0 rfl rfl)
          have HX_ask1 := Lib.hid (S.out.get 0 1 rfl rfl)
          have HX_more0 := Lib.hid (S.out.get 1 0 rfl rfl)
          have HX_more1 := Lib.hid (S.out.get 1 1 rfl rfl)
          have HX_more2 := Lib.hid (S.out.get 1 2 rfl rfl)
          have HX_more3 := Lib.hid (S.out.get 1 3 rfl rfl)
          have HX_more4 := Lib.hid (S.out.get 1 4 rfl rfl)
          have HX_more5 := Lib.hid (S.out.get 1 5 rfl rfl)
          have HX_more6 := Lib.hid (S.out.get 1 6 rfl rfl)
          have HBW := Lib.hid S.out.bel
          have HSN := Lib.hid (HSN.out.below S.out.bel)
          have HSP := Lib.hid (HSP.out.below S.out.bel)
          have S := Lib.hid (St.init w4)
          have q_town0 := keep_cell S.out.bel HX_town0.out
          have q_town1 := keep_cell S.out.bel HX_town1.out
          have q_town2 := keep_cell S.out.bel HX_town2.out
          have q_more0 := keep_cell S.out.bel HX_more0.out
          have q_more1 := keep_cell S.out.bel HX_more1.out
          have q_more2 := keep_cell S.out.bel HX_more2.out
          go_wp2_with fail
          refine (sounded_any _ t s _ ⟨_, _, rfl, HSN.out.below S.out.bel, HSP.out.below S.out.bel⟩ (by omega) (by omega)).mono ?_
          rintro e w5 ⟨v', rfl, ⟨sv', pv', rfl, ho1, ho2⟩, hb⟩
          obtain ⟨Aa, ca, rfl⟩ := own_shape ho1
          obtain ⟨Ab, cb, rfl⟩ := own_shape ho2
          rw [show (addS t s).wells = t.wells from rfl]
          have S := Lib.hid ((S.out.take2 hb ho1 ho2 (by decide)).alloc [I t.wells, .slice Aa (addS t s).snd.length ca, .slice Ab (addS t s).slp.length cb] 25)
          clear hb
          clear q_town0 q_town1 q_town2 q_more0 q_more1 q_more2
          clear ho1 ho2
          have hta := S.out.lt 0 rfl
          have q_town0 := keep_cell S.out.bel HX_town0.out
          have q_town1 := keep_cell S.out.bel HX_town1.out
          have q_town2 := keep_cell S.out.bel HX_town2.out
          go_wp2_with fail
          refine (copy_any _ t _ ⟨_, _, rfl, HSN.out.below S.out.bel, HSP.out.below S.out.bel⟩ (by omega) (by omega)).mono ?_
          rintro e w6 ⟨v', rfl, ⟨rv', sv', rfl, ho1, ho2⟩, hb⟩
          obtain ⟨Ax, cx, rfl⟩ := own_shape ho1
          obtain ⟨Ay, cy, rfl⟩ := own_shape ho2
          have S := Lib.hid ((S.out.take2 hb ho1 ho2 (by decide)).alloc [I t.wells, .slice Ax t.snd.length cx, .slice Ay t.slp.length cy] 25)
          clear hb
          clear q_town0 q_town1 q_town2
          clear ho1 ho2 hta
          have k0 := keep_cell S.out.bel HX_more3.out
          have k1 := keep_cell S.out.bel HX_more4.out
          have k2 := keep_cell S.out.bel HX_more5.out
          have k3 := keep_cell S.out.bel HX_more6.out
          have k4 := S.out.get 0 2 rfl rfl
          have h63 : t.slp.length + 1 ≤ maxLen := by simp only [maxLen]; omega
          have hby : (t.slp.length + 1) * 32 ≤ 140737488355328 := by omega
          have h02 : 0 < 4 := by decide
          have T := Lib.hid (S.out.alloc [I p.a, I p.b, I p.low, I p.high] 47)
          go_wp2_with (at_builtin; refine wpList_append_St T.out 3 rfl _ _ 23 rfl 47 j0 (.agg #[.int .i64 0, .int .i64 0, .int .i64 0, .int .i64 0]) 4 32 Try.underlying23 ki kz0 kz1 kz2 rfl h02 rfl rfl _ 1 [I p.a, I p.b, I p.low, I p.high] rfl (T.out.boxReads 0 rfl rfl (by omega)) (slps_one [p]) h63 hby ?_; intro vap wap hS5; rw [show t.slp.length + 1 = (addP t p).slp.length from by simp [addP], show slpCells t.slp ++ [I p.a, I p.b, I p.low, I p.high] = slpCells (addP t p).slp from by simp [addP, slpCells_snoc]] at hS5; obtain ⟨A5, c5, rfl⟩ := own_shape (hS5.own 3 rfl); have S := Lib.hid hS5; clear hS5 k0 k1 k2 k3 k4; have u0 := S.out.get 1 2 rfl rfl; have u1 := S.out.free 1 2 rfl; have S := Lib.hid ((S.out.set 1 2 (.slice A5 (addP t p).slp.length c5) rfl).tail))
          clear u0 u1
          have S := Lib.hid (show St w4 _ _ [.box w6.heap.size [I t.wells, .slice Ax t.snd.length cx, .slice A5 (addP t p).slp.length c5], .own 57 3 (.slice Ax t.snd.length cx) t.snd.length (sndCells t.snd), .own 47 4 (.slice A5 (addP t p).slp.length c5) (addP t p).slp.length (slpCells (addP t p).slp), .box w5.heap.size [I t.wells, .slice Aa (addS t s).snd.length ca, .slice Ab (addS t s).slp.length cb], .own 57 3 (.slice Aa (addS t s).snd.length ca) (addS t s).snd.length (sndCells (addS t s).snd), .own 47 4 (.slice Ab (addS t s).slp.length cb) (addS t s).slp.length (slpCells (addS t s).slp)] from S.out.fix)
          go_wp2_with fail
          go_loopw [13] (fun i wr => ∃ k : Nat, k ≤ 2 ∧ i = I k ∧ Hid (St w4 wr wr.heap.size [.box w6.heap.size [I t.wells, .slice Ax t.snd.length cx, .slice A5 (addP t p).slp.length c5], .own 57 3 (.slice Ax t.snd.length cx) t.snd.length (sndCells t.snd), .own 47 4 (.slice A5 (addP t p).slp.length c5) (addP t p).slp.length (slpCells (addP t p).slp), .box w5.heap.size [I t.wells, .slice Aa (addS t s).snd.length ca, .slice Ab (addS t s).slp.length cb], .own 57 3 (.slice Aa (addS t s).snd.length ca) (addS t s).snd.length (sndCells (addS t s).snd), .own 47 4 (.slice Ab (addS t s).slp.length cb) (addS t s).slp.length (slpCells (addS t s).slp)])) (fun i _ => 2 - (intOf i).toNat)
          case atStart => exact ⟨0, by omega, rfl, Lib.hid S.out.fix⟩
          case round =>
            clear S
            obtain ⟨k, hk, rfl, S⟩ := hrel
            obtain ⟨wo, rfl⟩ : ∃ wo : World, wo = wr := ⟨_, rfl⟩
            rcases (show k = 0 ∨ k = 1 ∨ k = 2 by omega) with rfl | rfl | rfl
            · have q_a0 := S.out.get 3 0 rfl rfl
              have q_a1 := S.out.get 3 1 rfl rfl
              have q_a2 := S.out.get 3 2 rfl rfl
              have q_b0 := S.out.get 0 0 rfl rfl
              have q_b1 := S.out.get 0 1 rfl rfl
              have q_b2 := S.out.get 0 2 rfl rfl
              have hlt := S.out.lt 0 rfl
              go_wp2_with fail
              have S := Lib.hid (S.out.alloc [I t.wells, .slice Aa (addS t s).snd.length ca, .slice Ab (addS t s).slp.length cb] 25)
              clear hlt
              clear q_a0 q_a1 q_a2 q_b0 q_b1 q_b2
              have q_o0 := S.out.get 0 0 rfl rfl
              have q_o1 := S.out.get 0 1 rfl rfl
              have q_o2 := S.out.get 0 2 rfl rfl
              go_wp2_with fail
              clear q_o0 q_o1 q_o2
              have HNR := Lib.hid (nar_addS t s)
              cases hro : readyB (addS t s)
              · have HRO := Lib.hid hro
                clear hro
                refine (ready_any _ (addS t s) _ ⟨_, _, rfl, S.out.row 5 rfl, S.out.row 6 rfl⟩).mono ?_
                rintro e w7 ⟨rfl, hb⟩
                rw [HRO.out]
                have S := Lib.hid (S.out.call hb)
                clear hb
                go_wp2_with fail
                go_roundw
                case rel => exact ⟨1, by omega, rfl, Lib.hid S.out.fix.tail⟩
                case measure => simp [intOf]
              · have HRO := Lib.hid hro
                clear hro
                refine (ready_any _ (addS t s) _ ⟨_, _, rfl, S.out.row 5 rfl, S.out.row 6 rfl⟩).mono ?_
                rintro e w7 ⟨rfl, hb⟩
                rw [HRO.out]
                have S := Lib.hid (S.out.call hb)
                clear hb
                have HVO := Lib.hid (readyB_true HRO.out).1
                have q_o0 := S.out.get 0 0 rfl rfl
                have q_o1 := S.out.get 0 1 rfl rfl
                have q_o2 := S.out.get 0 2 rfl rfl
                go_wp2_with fail
                have HOO := Lib.hid (HNR.out.none HV.out HVO.out HO.out)
                refine (ends_no _ (addS t s) _ ⟨_, _, rfl, S.out.row 5 rfl, S.out.row 6 rfl⟩ HOO.out).mono ?_
                rintro e w8 ⟨rfl, hb⟩
                have S := Lib.hid (S.out.call hb)
                clear hb
                clear q_o0 q_o1 q_o2
                go_wp2_with fail
                go_roundw
                case rel => exact ⟨1, by omega, rfl, Lib.hid S.out.fix.tail⟩
                case measure => simp [intOf]
            · have q_a0 := S.out.get 3 0 rfl rfl
              have q_a1 := S.out.get 3 1 rfl rfl
              have q_a2 := S.out.get 3 2 rfl rfl
              have q_b0 := S.out.get 0 0 rfl rfl
              have q_b1 := S.out.get 0 1 rfl rfl
              have q_b2 := S.out.get 0 2 rfl rfl
              have hlt := S.out.lt 0 rfl
              go_wp2_with fail
              have S := Lib.hid (S.out.alloc [I t.wells, .slice Ax t.snd.length cx, .slice A5 (addP t p).slp.length c5] 25)
              clear hlt
              clear q_a0 q_a1 q_a2 q_b0 q_b1 q_b2
              have q_o0 := S.out.get 0 0 rfl rfl
              have q_o1 := S.out.get 0 1 rfl rfl
              have q_o2 := S.out.get 0 2 rfl rfl
              go_wp2_with fail
              clear q_o0 q_o1 q_o2
              have HNR := Lib.hid (nar_addP t p)
              cases hro : readyB (addP t p)
              · have HRO := Lib.hid hro
                clear hro
                refine (ready_any _ (addP t p) _ ⟨_, _, rfl, S.out.row 2 rfl, S.out.row 3 rfl⟩).mono ?_
                rintro e w7 ⟨rfl, hb⟩
                rw [HRO.out]
                have S := Lib.hid (S.out.call hb)
                clear hb
                go_wp2_with fail
                go_roundw
                case rel => exact ⟨2, by omega, rfl, Lib.hid S.out.fix.tail⟩
                case measure => simp [intOf]
              · have HRO := Lib.hid hro
                clear hro
                refine (ready_any _ (addP t p) _ ⟨_, _, rfl, S.out.row 2 rfl, S.out.row 3 rfl⟩).mono ?_
                rintro e w7 ⟨rfl, hb⟩
                rw [HRO.out]
                have S := Lib.hid (S.out.call hb)
                clear hb
                have HVO := Lib.hid (readyB_true HRO.out).1
                have q_o0 := S.out.get 0 0 rfl rfl
                have q_o1 := S.out.get 0 1 rfl rfl
                have q_o2 := S.out.get 0 2 rfl rfl
                go_wp2_with fail
                have HOO := Lib.hid (HNR.out.none HV.out HVO.out HO.out)
                refine (ends_no _ (addP t p) _ ⟨_, _, rfl, S.out.row 2 rfl, S.out.row 3 rfl⟩ HOO.out).mono ?_
                rintro e w8 ⟨rfl, hb⟩
                have S := Lib.hid (S.out.call hb)
                clear hb
                clear q_o0 q_o1 q_o2
                go_wp2_with fail
                go_roundw
                case rel => exact ⟨2, by omega, rfl, Lib.hid S.out.fix.tail⟩
                case measure => simp [intOf]
            · go_wp2_with fail
              refine (works_any _).mono ?_
              rintro e w7 ⟨rfl, hb⟩
              have S := Lib.hid (S.out.call hb)
              clear hb
              go_wp2_with fail
              go_ret
              exact ⟨rfl, bto HBW.out S.out.bel⟩

end Go.Proofs.Ytplbaijdnpfdgaa
