/- The law LevelsDeeper walked. -/
import Derived.Test.YtplbaijdnpfdgaaV16
namespace Go.Proofs.Ytplbaijdnpfdgaa
open Go.RowKit Go.Sort

theorem ownB_low' {t : Twn} (h : openE t true = 0) {k : Nat} (hk : (k : Int) < t.wells) {x : Int} (hx : (lowL t).getD k 0 = x) : 0 ≤ x ∧ x ≤ 99 := by
  rw [lowL_get hk] at hx
  obtain ⟨⟨y, hy, ey⟩, -⟩ := lvl_one h hk
  have := hy.own k hk
  omega
theorem ownB_high' {t : Twn} (h : openE t true = 0) {k : Nat} (hk : (k : Int) < t.wells) {x : Int} (hx : (highL t).getD k 0 = x) : 0 ≤ x ∧ x ≤ 99 := by
  rw [highL_get hk] at hx
  obtain ⟨-, ⟨y, hy, ey⟩⟩ := lvl_one h hk
  have := hy.own k hk
  omega
theorem span_bd {t : Twn} {l : List Sp} (h : openE t true = 0) (he : Exact t l) (hl : ∀ w : Nat, (w : Int) < t.wells → lvl (closeM (baseM t)) w = spAt l w) {k : Nat} (hk : k < l.length) : 0 ≤ (spAt l k).low ∧ (spAt l k).low ≤ 99 ∧ 0 ≤ (spAt l k).high ∧ (spAt l k).high ≤ 99 := by
  have hkw : (k : Int) < t.wells := by have := he.len; omega
  have a := ownB_low' h hkw (lowL_get hkw)
  have b := ownB_high' h hkw (highL_get hkw)
  rw [hl k hkw] at a b
  omega
theorem spans_three {t : Twn} (hv : valid t = true) (h : openE t true = 3) : spansR t = none := by
  rcases spansR_cases (valid_vl hv) with ⟨l, hl, he⟩ | ⟨hn, _⟩
  · exact absurd ((spansR_isSome (valid_vl hv)).1 (by rw [hl]; rfl)) (no_truth hv h)
  · exact hn

set_option maxRecDepth 100000 in
set_option maxHeartbeats 16000000 in
theorem lawDeeper_any (v : Value) (t : Twn) (x y z u : Int) (w : World) (hv : TwnAt w v t) :
    Calls Try.prog 7 #[v, .agg #[I x, I y, I z, I u]] w fun e w' => e = .returned (.bool true) ∧ Below w.heap.size w w' := by
  obtain ⟨sv, pv, rfl, hs, hp⟩ := hv
  obtain ⟨A1, c1, rfl, hsl1, hsl2, hc1⟩ := hs.open_
  obtain ⟨A2, c2, rfl, hpl1, hpl2, hc2⟩ := hp.open_
  have HSN := Lib.hid hs
  have HSP := Lib.hid hp
  have HC1 := Lib.hid hc1
  have HC2 := Lib.hid hc2
  clear hc1 hc2 hs hp
  have S := Lib.hid (show St w ((w.alloc (.cells #[I t.wells, .slice A1 t.snd.length c1, .slice A2 t.slp.length c2] 25)).alloc (.cells #[I x, I y, I z, I u] 38)) (w.heap.size + 1 + 1) [.box (w.heap.size + 1) [I x, I y, I z, I u], .box w.heap.size [I t.wells, .slice A1 t.snd.length c1, .slice A2 t.slp.length c2]] from ((St.init w).alloc [I t.wells, .slice A1 t.snd.length c1, .slice A2 t.slp.length c2] 25).alloc [I x, I y, I z, I u] 38)
  cases hr : readyB t
  · have HR := Lib.hid hr
    clear hr
    go_enter Try.func7, Try.ntmps7
    have q_town0 := S.out.get 1 0 rfl rfl
    have q_town1 := S.out.get 1 1 rfl rfl
    have q_town2 := S.out.get 1 2 rfl rfl
    have q_ask0 := S.out.get 0 0 rfl rfl
    have q_ask1 := S.out.get 0 1 rfl rfl
    have q_ask3 := S.out.get 0 3 rfl rfl
    go_wp2_with fail
    refine (ready_any _ t _ ⟨_, _, rfl, HSN.out.below S.out.bel, HSP.out.below S.out.bel⟩).mono ?_
    rintro e w1 ⟨rfl, hb⟩
    rw [HR.out]
    have S := Lib.hid (S.out.call hb)
    clear hb
    clear q_town0 q_town1 q_town2 q_ask0 q_ask1 q_ask3
    have q_town0 := S.out.get 1 0 rfl rfl
    have q_town1 := S.out.get 1 1 rfl rfl
    have q_town2 := S.out.get 1 2 rfl rfl
    have q_ask0 := S.out.get 0 0 rfl rfl
    have q_ask1 := S.out.get 0 1 rfl rfl
    have q_ask3 := S.out.get 0 3 rfl rfl
    go_wp2_with fail
    refine (works_any _).mono ?_
    rintro e w2 ⟨rfl, hb⟩
    have S := Lib.hid (S.out.call hb)
    clear hb
    clear q_town0 q_town1 q_town2 q_ask0 q_ask1 q_ask3
    have q_town0 := S.out.get 1 0 rfl rfl
    have q_town1 := S.out.get 1 1 rfl rfl
    have q_town2 := S.out.get 1 2 rfl rfl
    have q_ask0 := S.out.get 0 0 rfl rfl
    have q_ask1 := S.out.get 0 1 rfl rfl
    have q_ask3 := S.out.get 0 3 rfl rfl
    go_wp2_with fail
    go_ret
    exact ⟨rfl, S.out.bel⟩
  · have HR := Lib.hid hr
    obtain ⟨hv, h5, hm8, ht1, ht2⟩ := readyB_true hr
    have hw0 := (valid_vl hv).w0
    have hw6 : t.wells ≤ 1000 := by omega
    have HV := Lib.hid hv
    have HVL := Lib.hid (valid_vl hv)
    have HV5 := Lib.hid (show t.wells ≤ 5 from h5)
    obtain ⟨N, hN⟩ := Int.eq_ofNat_of_zero_le hw0
    have hN5 : N ≤ 5 := by omega
    have HNW := Lib.hid hN
    clear hv h5 hm8 hr hN
    by_cases hu1 : u < -99
    · go_enter Try.func7, Try.ntmps7
      have q_town0 := S.out.get 1 0 rfl rfl
      have q_town1 := S.out.get 1 1 rfl rfl
      have q_town2 := S.out.get 1 2 rfl rfl
      have q_ask0 := S.out.get 0 0 rfl rfl
      have q_ask1 := S.out.get 0 1 rfl rfl
      have q_ask3 := S.out.get 0 3 rfl rfl
      go_wp2_with fail
      refine (ready_any _ t _ ⟨_, _, rfl, HSN.out.below S.out.bel, HSP.out.below S.out.bel⟩).mono ?_
      rintro e w1 ⟨rfl, hb⟩
      rw [HR.out]
      have S := Lib.hid (S.out.call hb)
      clear hb
      clear q_town0 q_town1 q_town2 q_ask0 q_ask1 q_ask3
      have q_town0 := S.out.get 1 0 rfl rfl
      have q_town1 := S.out.get 1 1 rfl rfl
      have q_town2 := S.out.get 1 2 rfl rfl
      have q_ask0 := S.out.get 0 0 rfl rfl
      have q_ask1 := S.out.get 0 1 rfl rfl
      have q_ask3 := S.out.get 0 3 rfl rfl
      go_wp2_with fail
      refine (works_any _).mono ?_
      rintro e w2 ⟨rfl, hb⟩
      have S := Lib.hid (S.out.call hb)
      clear hb
      clear q_town0 q_town1 q_town2 q_ask0 q_ask1 q_ask3
      have q_town0 := S.out.get 1 0 rfl rfl
      have q_town1 := S.out.get 1 1 rfl rfl
      have q_town2 := S.out.get 1 2 rfl rfl
      have q_ask0 := S.out.get 0 0 rfl rfl
      have q_ask1 := S.out.get 0 1 rfl rfl
      have q_ask3 := S.out.get 0 3 rfl rfl
      go_wp2_with fail
      go_ret
      exact ⟨rfl, S.out.bel⟩
    · by_cases hu2 : 99 < u
      · go_enter Try.func7, Try.ntmps7
        have q_town0 := S.out.get 1 0 rfl rfl
        have q_town1 := S.out.get 1 1 rfl rfl
        have q_town2 := S.out.get 1 2 rfl rfl
        have q_ask0 := S.out.get 0 0 rfl rfl
        have q_ask1 := S.out.get 0 1 rfl rfl
        have q_ask3 := S.out.get 0 3 rfl rfl
        go_wp2_with fail
        refine (ready_any _ t _ ⟨_, _, rfl, HSN.out.below S.out.bel, HSP.out.below S.out.bel⟩).mono ?_
        rintro e w1 ⟨rfl, hb⟩
        rw [HR.out]
        have S := Lib.hid (S.out.call hb)
        clear hb
        clear q_town0 q_town1 q_town2 q_ask0 q_ask1 q_ask3
        have q_town0 := S.out.get 1 0 rfl rfl
        have q_town1 := S.out.get 1 1 rfl rfl
        have q_town2 := S.out.get 1 2 rfl rfl
        have q_ask0 := S.out.get 0 0 rfl rfl
        have q_ask1 := S.out.get 0 1 rfl rfl
        have q_ask3 := S.out.get 0 3 rfl rfl
        go_wp2_with fail
        refine (works_any _).mono ?_
        rintro e w2 ⟨rfl, hb⟩
        have S := Lib.hid (S.out.call hb)
        clear hb
        clear q_town0 q_town1 q_town2 q_ask0 q_ask1 q_ask3
        have q_town0 := S.out.get 1 0 rfl rfl
        have q_town1 := S.out.get 1 1 rfl rfl
        have q_town2 := S.out.get 1 2 rfl rfl
        have q_ask0 := S.out.get 0 0 rfl rfl
        have q_ask1 := S.out.get 0 1 rfl rfl
        have q_ask3 := S.out.get 0 3 rfl rfl
        go_wp2_with fail
        go_ret
        exact ⟨rfl, S.out.bel⟩
      · go_enter Try.func7, Try.ntmps7
        have q_town0 := S.out.get 1 0 rfl rfl
        have q_town1 := S.out.get 1 1 rfl rfl
        have q_town2 := S.out.get 1 2 rfl rfl
        have q_ask0 := S.out.get 0 0 rfl rfl
        have q_ask1 := S.out.get 0 1 rfl rfl
        have q_ask3 := S.out.get 0 3 rfl rfl
        go_wp2_with fail
        refine (ready_any _ t _ ⟨_, _, rfl, HSN.out.below S.out.bel, HSP.out.below S.out.bel⟩).mono ?_
        rintro e w1 ⟨rfl, hb⟩
        rw [HR.out]
        have S := Lib.hid (S.out.call hb)
        clear hb
        clear q_town0 q_town1 q_town2 q_ask0 q_ask1 q_ask3
        have q_town0 := S.out.get 1 0 rfl rfl
        have q_town1 := S.out.get 1 1 rfl rfl
        have q_town2 := S.out.get 1 2 rfl rfl
        have q_ask0 := S.out.get 0 0 rfl rfl
        have q_ask1 := S.out.get 0 1 rfl rfl
        have q_ask3 := S.out.get 0 3 rfl rfl
        go_wp2_with fail
        cases h : isWell t.wells x
        · have Hx := Lib.hid h
          clear h
          refine (rIsWell_any t.wells x _ _ _ hw0 hw6 ⟨_, _, _, rfl⟩ ⟨_, _, _, rfl⟩).mono ?_
          rintro e w2 ⟨rfl, hb⟩
          rw [show isWell t.wells x = false from Hx.out]
          have S := Lib.hid (S.out.call hb)
          clear hb
          clear q_town0 q_town1 q_town2 q_ask0 q_ask1 q_ask3
          have q_town0 := S.out.get 1 0 rfl rfl
          have q_town1 := S.out.get 1 1 rfl rfl
          have q_town2 := S.out.get 1 2 rfl rfl
          have q_ask0 := S.out.get 0 0 rfl rfl
          have q_ask1 := S.out.get 0 1 rfl rfl
          have q_ask3 := S.out.get 0 3 rfl rfl
          go_wp2_with fail
          refine (works_any _).mono ?_
          rintro e w3 ⟨rfl, hb⟩
          have S := Lib.hid (S.out.call hb)
          clear hb
          clear q_town0 q_town1 q_town2 q_ask0 q_ask1 q_ask3
          have q_town0 := S.out.get 1 0 rfl rfl
          have q_town1 := S.out.get 1 1 rfl rfl
          have q_town2 := S.out.get 1 2 rfl rfl
          have q_ask0 := S.out.get 0 0 rfl rfl
          have q_ask1 := S.out.get 0 1 rfl rfl
          have q_ask3 := S.out.get 0 3 rfl rfl
          go_wp2_with fail
          go_ret
          exact ⟨rfl, S.out.bel⟩
        · have Hx := Lib.hid h
          clear h
          refine (rIsWell_any t.wells x _ _ _ hw0 hw6 ⟨_, _, _, rfl⟩ ⟨_, _, _, rfl⟩).mono ?_
          rintro e w2 ⟨rfl, hb⟩
          rw [show isWell t.wells x = true from Hx.out]
          have S := Lib.hid (S.out.call hb)
          clear hb
          clear q_town0 q_town1 q_town2 q_ask0 q_ask1 q_ask3
          have q_town0 := S.out.get 1 0 rfl rfl
          have q_town1 := S.out.get 1 1 rfl rfl
          have q_town2 := S.out.get 1 2 rfl rfl
          have q_ask0 := S.out.get 0 0 rfl rfl
          have q_ask1 := S.out.get 0 1 rfl rfl
          have q_ask3 := S.out.get 0 3 rfl rfl
          go_wp2_with fail
          cases h : isWell t.wells y
          · have Hy := Lib.hid h
            clear h
            refine (rIsWell_any t.wells y _ _ _ hw0 hw6 ⟨_, _, _, rfl⟩ ⟨_, _, _, rfl⟩).mono ?_
            rintro e w3 ⟨rfl, hb⟩
            rw [show isWell t.wells y = false from Hy.out]
            have S := Lib.hid (S.out.call hb)
            clear hb
            clear q_town0 q_town1 q_town2 q_ask0 q_ask1 q_ask3
            have q_town0 := S.out.get 1 0 rfl rfl
            have q_town1 := S.out.get 1 1 rfl rfl
            have q_town2 := S.out.get 1 2 rfl rfl
            have q_ask0 := S.out.get 0 0 rfl rfl
            have q_ask1 := S.out.get 0 1 rfl rfl
            have q_ask3 := S.out.get 0 3 rfl rfl
            go_wp2_with fail
            refine (works_any _).mono ?_
            rintro e w4 ⟨rfl, hb⟩
            have S := Lib.hid (S.out.call hb)
            clear hb
            clear q_town0 q_town1 q_town2 q_ask0 q_ask1 q_ask3
            have q_town0 := S.out.get 1 0 rfl rfl
            have q_town1 := S.out.get 1 1 rfl rfl
            have q_town2 := S.out.get 1 2 rfl rfl
            have q_ask0 := S.out.get 0 0 rfl rfl
            have q_ask1 := S.out.get 0 1 rfl rfl
            have q_ask3 := S.out.get 0 3 rfl rfl
            go_wp2_with fail
            go_ret
            exact ⟨rfl, S.out.bel⟩
          · have Hy := Lib.hid h
            clear h
            refine (rIsWell_any t.wells y _ _ _ hw0 hw6 ⟨_, _, _, rfl⟩ ⟨_, _, _, rfl⟩).mono ?_
            rintro e w3 ⟨rfl, hb⟩
            rw [show isWell t.wells y = true from Hy.out]
            have S := Lib.hid (S.out.call hb)
            clear hb
            clear q_town0 q_town1 q_town2 q_ask0 q_ask1 q_ask3
            have q_town0 := S.out.get 1 0 rfl rfl
            have q_town1 := S.out.get 1 1 rfl rfl
            have q_town2 := S.out.get 1 2 rfl rfl
            have q_ask0 := S.out.get 0 0 rfl rfl
            have q_ask1 := S.out.get 0 1 rfl rfl
            have q_ask3 := S.out.get 0 3 rfl rfl
            go_wp2_with fail
            rcases openE_cases HV.out with h | h
            · have HO := Lib.hid h
              obtain ⟨-, -, l, hl⟩ := openE_ask h
              have HLS := Lib.hid hl
              obtain ⟨hex, hlv⟩ := exact_lvl h hl
              have HLN := Lib.hid hex.len
              have HLB := Lib.hid (fun k (hk : k < l.length) => show 0 ≤ (spAt l k).low ∧ (spAt l k).low ≤ 99 ∧ 0 ≤ (spAt l k).high ∧ (spAt l k).high ≤ 99 from span_bd h hex hlv hk)
              have HLV := Lib.hid (fun (k : Nat) (hk : k < t.wells.toNat) => show lvl (closeM (baseM t)) k = spAt l k from hlv k (by omega))
              have hl6 : l.length ≤ 6 := by have := hex.len; have := HV5.out; omega
              obtain ⟨dl, dh, hdt, -⟩ := differ_one h Hx.out Hy.out
              have HDT := Lib.hid hdt
              clear h hl hex hlv hdt
              refine (spans_any _ t _ ⟨_, _, rfl, HSN.out.below S.out.bel, HSP.out.below S.out.bel⟩ HVL.out (by omega) (by omega)).mono ?_
              rintro e w4 (⟨l', v', hs', rfl, ho, hb⟩ | ⟨hs', rfl, hb⟩)
              · obtain rfl : l = l' := by have := HLS.out; rw [hs'] at this; injection this with this; exact this.symm
                obtain ⟨A3, c3, rfl⟩ := own_shape ho
                have S := Lib.hid (S.out.take hb ho)
                clear hb ho hs' HLS
                clear q_town0 q_town1 q_town2 q_ask0 q_ask1 q_ask3
                go_wp2_with fail
                go_loopw [7] (fun i wr => ∃ k : Nat, k ≤ l.length ∧ i = I k ∧ Hid (Deep t u k) ∧ Hid (St w wr wr.heap.size [.own 40 2 (.slice A3 l.length c3) l.length (spCells l), .box (w.heap.size + 1) [I x, I y, I z, I u], .box w.heap.size [I t.wells, .slice A1 t.snd.length c1, .slice A2 t.slp.length c2]])) (fun i _ => l.length - (intOf i).toNat)
                case atStart => exact ⟨0, by omega, rfl, Lib.hid ⟨fun j hj => by omega⟩, Lib.hid S.out.fix⟩
                case round =>
                  clear S
                  obtain ⟨k, hk, rfl, HD, S⟩ := hrel
                  by_cases hlt : k < l.length
                  · have hki : (k : Int) < (l.length : Int) := by omega
                    obtain ⟨g3, c3', hA3, -, hg3⟩ := own_shape_pos (S.out.own 0 rfl) (show 0 < l.length by omega)
                    injection hA3 with hA3 _ hcc
                    subst hA3
                    have hcl := spCells_get (l := l) (m := k) hlt
                    have hlm := HLV.out k (by have := HLN.out; omega)
                    have hbb := HLB.out k hlt
                    obtain ⟨⟨lo, hi⟩, hsp⟩ : ∃ s, spAt l k = s := ⟨_, rfl⟩
                    rw [hsp] at hcl hlm hbb
                    dsimp only at hcl hbb
                    have HC0 := Lib.hid hcl.1
                    have HC1' := Lib.hid hcl.2
                    have HLV := Lib.hid hlm
                    obtain ⟨p, hp⟩ : ∃ p, lo + u = p := ⟨_, rfl⟩
                    obtain ⟨q, hq⟩ : ∃ q, hi + u = q := ⟨_, rfl⟩
                    have HPQ := Lib.hid (And.intro hp hq)
                    have hlt0 := S.out.lt 2 rfl
                    have hlt1 := S.out.lt 1 rfl
                    clear hcl hlm hsp hcc
                    by_cases hu : 0 ≤ u
                    · by_cases c1 : lo ≤ 0
                      · go_wp2_with fail
                        have m1 : lo ≤ p := by omega
                        have m2 : ¬ p < lo := by omega
                        have m3 : min lo p = lo := by omega
                        have m4 : hi ≤ q := by omega
                        have m5 : ¬ q < hi := by omega
                        have m6 : max hi q = q := by omega
                        have m9 : (if hi < q then q else hi) = q := by split <;> omega
                        have m10 : (if p < lo then p else lo) = lo := by split <;> omega
                        have m7 : lo ≤ 0 := by omega
                        clear hu c1
                        have y0 := cell_regrown (own_at2 (S.out.own 0 rfl) HC0.out)
                        have y1 := cell_regrown (own_at2 (S.out.own 0 rfl) HC1'.out)
                        have qu := cell_regrown (S.out.get 1 3 rfl rfl)
                        refine wp_region_ext (by kernel_rfl) (by kernel_rfl) ?_
                        repeat (go_big_quiet_step (fail))
                        refine wpQuiet_nil ?_
                        clear y0 y1 qu hp hq m1 m2 m3 m4 m5 m6 m9 m10 m7
                        intro wq hbq
                        have S := Lib.hid (S.out.call hbq)
                        clear hbq
                        clear HPQ
                        go_wp2_with fail
                        refine (works_any _).mono ?_
                        rintro e w4 ⟨rfl, hb⟩
                        have S := Lib.hid (S.out.call hb)
                        clear hb
                        go_wp2_with fail
                        go_ret
                        exact ⟨rfl, S.out.bel⟩
                      · by_cases c2 : 99 ≤ q
                        · go_wp2_with fail
                          have m1 : lo ≤ p := by omega
                          have m2 : ¬ p < lo := by omega
                          have m3 : min lo p = lo := by omega
                          have m4 : hi ≤ q := by omega
                          have m5 : ¬ q < hi := by omega
                          have m6 : max hi q = q := by omega
                          have m9 : (if hi < q then q else hi) = q := by split <;> omega
                          have m10 : (if p < lo then p else lo) = lo := by split <;> omega
                          have m7 : ¬ lo ≤ 0 := by omega
                          have m8 : 99 ≤ q := by omega
                          clear hu c1 c2
                          have y0 := cell_regrown (own_at2 (S.out.own 0 rfl) HC0.out)
                          have y1 := cell_regrown (own_at2 (S.out.own 0 rfl) HC1'.out)
                          have qu := cell_regrown (S.out.get 1 3 rfl rfl)
                          refine wp_region_ext (by kernel_rfl) (by kernel_rfl) ?_
                          repeat (go_big_quiet_step (fail))
                          refine wpQuiet_nil ?_
                          clear y0 y1 qu hp hq m1 m2 m3 m4 m5 m6 m9 m10 m7 m8
                          intro wq hbq
                          have S := Lib.hid (S.out.call hbq)
                          clear hbq
                          clear HPQ
                          go_wp2_with fail
                          refine (works_any _).mono ?_
                          rintro e w4 ⟨rfl, hb⟩
                          have S := Lib.hid (S.out.call hb)
                          clear hb
                          go_wp2_with fail
                          go_ret
                          exact ⟨rfl, S.out.bel⟩
                        · have HDN := Lib.hid (Deep.mk (t := t) (u := u) (k := k + 1) fun j hj => by
                            by_cases e : j = k
                            · rw [e, HLV.out]
                              dsimp only
                              have := HPQ.out
                              omega
                            · exact HD.out.all j (by omega))
                          clear HPQ
                          go_wp2_with fail
                          have m1 : lo ≤ p := by omega
                          have m2 : ¬ p < lo := by omega
                          have m3 : min lo p = lo := by omega
                          have m4 : hi ≤ q := by omega
                          have m5 : ¬ q < hi := by omega
                          have m6 : max hi q = q := by omega
                          have m9 : (if hi < q then q else hi) = q := by split <;> omega
                          have m10 : (if p < lo then p else lo) = lo := by split <;> omega
                          have m7 : ¬ lo ≤ 0 := by omega
                          have m8 : ¬ 99 ≤ q := by omega
                          clear hu c1 c2
                          have y0 := cell_regrown (own_at2 (S.out.own 0 rfl) HC0.out)
                          have y1 := cell_regrown (own_at2 (S.out.own 0 rfl) HC1'.out)
                          have qu := cell_regrown (S.out.get 1 3 rfl rfl)
                          refine wp_region_ext (by kernel_rfl) (by kernel_rfl) ?_
                          repeat (go_big_quiet_step (fail))
                          refine wpQuiet_nil ?_
                          clear y0 y1 qu hp hq m1 m2 m3 m4 m5 m6 m9 m10 m7 m8
                          intro wq hbq
                          have S := Lib.hid (S.out.call hbq)
                          clear hbq
                          go_wp2_with fail
                          go_roundw
                          case rel => exact ⟨k + 1, by omega, by go_num, HDN, Lib.hid S.out.fix⟩
                          case measure => first | (simp [intOf]; done) | (simp [intOf]; omega)
                    · by_cases c1 : p ≤ 0
                      · go_wp2_with fail
                        have m1 : ¬ lo ≤ p := by omega
                        have m2 : p < lo := by omega
                        have m3 : min lo p = p := by omega
                        have m4 : ¬ hi ≤ q := by omega
                        have m5 : q < hi := by omega
                        have m6 : max hi q = hi := by omega
                        have m9 : (if hi < q then q else hi) = hi := by split <;> omega
                        have m10 : (if p < lo then p else lo) = p := by split <;> omega
                        have m7 : p ≤ 0 := by omega
                        clear hu c1
                        have y0 := cell_regrown (own_at2 (S.out.own 0 rfl) HC0.out)
                        have y1 := cell_regrown (own_at2 (S.out.own 0 rfl) HC1'.out)
                        have qu := cell_regrown (S.out.get 1 3 rfl rfl)
                        refine wp_region_ext (by kernel_rfl) (by kernel_rfl) ?_
                        repeat (go_big_quiet_step (fail))
                        refine wpQuiet_nil ?_
                        clear y0 y1 qu hp hq m1 m2 m3 m4 m5 m6 m9 m10 m7
                        intro wq hbq
                        have S := Lib.hid (S.out.call hbq)
                        clear hbq
                        clear HPQ
                        go_wp2_with fail
                        refine (works_any _).mono ?_
                        rintro e w4 ⟨rfl, hb⟩
                        have S := Lib.hid (S.out.call hb)
                        clear hb
                        go_wp2_with fail
                        go_ret
                        exact ⟨rfl, S.out.bel⟩
                      · by_cases c2 : 99 ≤ hi
                        · go_wp2_with fail
                          have m1 : ¬ lo ≤ p := by omega
                          have m2 : p < lo := by omega
                          have m3 : min lo p = p := by omega
                          have m4 : ¬ hi ≤ q := by omega
                          have m5 : q < hi := by omega
                          have m6 : max hi q = hi := by omega
                          have m9 : (if hi < q then q else hi) = hi := by split <;> omega
                          have m10 : (if p < lo then p else lo) = p := by split <;> omega
                          have m7 : ¬ p ≤ 0 := by omega
                          have m8 : 99 ≤ hi := by omega
                          clear hu c1 c2
                          have y0 := cell_regrown (own_at2 (S.out.own 0 rfl) HC0.out)
                          have y1 := cell_regrown (own_at2 (S.out.own 0 rfl) HC1'.out)
                          have qu := cell_regrown (S.out.get 1 3 rfl rfl)
                          refine wp_region_ext (by kernel_rfl) (by kernel_rfl) ?_
                          repeat (go_big_quiet_step (fail))
                          refine wpQuiet_nil ?_
                          clear y0 y1 qu hp hq m1 m2 m3 m4 m5 m6 m9 m10 m7 m8
                          intro wq hbq
                          have S := Lib.hid (S.out.call hbq)
                          clear hbq
                          clear HPQ
                          go_wp2_with fail
                          refine (works_any _).mono ?_
                          rintro e w4 ⟨rfl, hb⟩
                          have S := Lib.hid (S.out.call hb)
                          clear hb
                          go_wp2_with fail
                          go_ret
                          exact ⟨rfl, S.out.bel⟩
                        · have HDN := Lib.hid (Deep.mk (t := t) (u := u) (k := k + 1) fun j hj => by
                            by_cases e : j = k
                            · rw [e, HLV.out]
                              dsimp only
                              have := HPQ.out
                              omega
                            · exact HD.out.all j (by omega))
                          clear HPQ
                          go_wp2_with fail
                          have m1 : ¬ lo ≤ p := by omega
                          have m2 : p < lo := by omega
                          have m3 : min lo p = p := by omega
                          have m4 : ¬ hi ≤ q := by omega
                          have m5 : q < hi := by omega
                          have m6 : max hi q = hi := by omega
                          have m9 : (if hi < q then q else hi) = hi := by split <;> omega
                          have m10 : (if p < lo then p else lo) = p := by split <;> omega
                          have m7 : ¬ p ≤ 0 := by omega
                          have m8 : ¬ 99 ≤ hi := by omega
                          clear hu c1 c2
                          have y0 := cell_regrown (own_at2 (S.out.own 0 rfl) HC0.out)
                          have y1 := cell_regrown (own_at2 (S.out.own 0 rfl) HC1'.out)
                          have qu := cell_regrown (S.out.get 1 3 rfl rfl)
                          refine wp_region_ext (by kernel_rfl) (by kernel_rfl) ?_
                          repeat (go_big_quiet_step (fail))
                          refine wpQuiet_nil ?_
                          clear y0 y1 qu hp hq m1 m2 m3 m4 m5 m6 m9 m10 m7 m8
                          intro wq hbq
                          have S := Lib.hid (S.out.call hbq)
                          clear hbq
                          go_wp2_with fail
                          go_roundw
                          case rel => exact ⟨k + 1, by omega, by go_num, HDN, Lib.hid S.out.fix⟩
                          case measure => first | (simp [intOf]; done) | (simp [intOf]; omega)
                  · have hki : ¬ (k : Int) < (l.length : Int) := by omega
                    have HDA := Lib.hid (show Deep t u t.wells.toNat by rw [← HLN.out, show l.length = k by omega]; exact HD.out)
                    clear HD
                    have S := Lib.hid S.out.tail
                    clear hlt hk
                    have q_town0 := S.out.get 1 0 rfl rfl
                    have q_town1 := S.out.get 1 1 rfl rfl
                    have q_town2 := S.out.get 1 2 rfl rfl
                    go_wp2_with fail
                    clear hki
                    clear q_town0 q_town1 q_town2
                    refine (copy_any _ t _ ⟨_, _, rfl, HSN.out.below S.out.bel, HSP.out.below S.out.bel⟩ (by omega) (by omega)).mono ?_
                    rintro e wc ⟨v', rfl, ⟨rv', sv', rfl, ho1, ho2⟩, hb⟩
                    obtain ⟨Ax, cx, rfl⟩ := own_shape ho1
                    obtain ⟨Ay, cy, rfl⟩ := own_shape ho2
                    have S := Lib.hid (S.out.take2 hb ho1 ho2 (by decide))
                    clear hb ho1 ho2
                    have S := Lib.hid (S.out.alloc [I t.wells, .slice Ax t.snd.length cx, .slice Ay t.slp.length cy] 25)
                    have cc0 := S.out.get 0 0 rfl rfl
                    have cc1 := S.out.get 0 1 rfl rfl
                    have cc2 := S.out.get 0 2 rfl rfl
                    go_wp2_with fail
                    clear cc0 cc1 cc2
                    go_loopw [9] (fun i wr => ∃ k : Nat, k ≤ t.snd.length ∧ i = I k ∧ Hid (St w wr wr.heap.size [.box wc.heap.size [I t.wells, .slice Ax t.snd.length cx, .slice Ay t.slp.length cy], .own 57 3 (.slice Ax t.snd.length cx) t.snd.length (sndCells (mapTo (shiftS u) k t.snd)), .own 47 4 (.slice Ay t.slp.length cy) t.slp.length (slpCells t.slp), .box (w.heap.size + 1) [I x, I y, I z, I u], .box w.heap.size [I t.wells, .slice A1 t.snd.length c1, .slice A2 t.slp.length c2]])) (fun i _ => t.snd.length - (intOf i).toNat)
                    case atStart => exact ⟨0, by omega, rfl, Lib.hid (by rw [mapTo_zero]; exact S.out.fix)⟩
                    case round =>
                      clear S
                      obtain ⟨k, hk, rfl, S⟩ := hrel
                      have p1 := S.out.get 0 1 rfl rfl
                      by_cases hlt : k < t.snd.length
                      · have hki : (k : Int) < (t.snd.length : Int) := by omega
                        obtain ⟨b1, o1, rfl, hb1, hcell1⟩ := HC1.out (by omega)
                        obtain ⟨x0, x1, x2⟩ := hcell1 k hlt
                        have x0 := keep_cell S.out.bel x0
                        have x1 := keep_cell S.out.bel x1
                        have x2 := keep_cell S.out.bel x2
                        have hvs := HVL.out.snd t.snd[k] (List.getElem_mem hlt)
                        have hs1 := mapTo_succ (shiftS u) (l := t.snd) hlt
                        clear hcell1
                        obtain ⟨⟨sw, sl, sh⟩, hs⟩ : ∃ s, t.snd[k] = s := ⟨_, rfl⟩
                        rw [hs] at x0 x1 x2 hs1 hvs
                        clear hs
                        dsimp only at x0 x1 x2 hvs
                        simp only [shiftS] at hs1
                        obtain ⟨L, hL⟩ : ∃ L, mapTo (shiftS u) k t.snd = L := ⟨_, rfl⟩
                        have hLl : L.length = t.snd.length := by rw [← hL, mapTo_len]
                        rw [hL] at S
                        have hs1 : mapTo (shiftS u) (k + 1) t.snd = L.set k ⟨sw, sl + u, sh + u⟩ := by rw [← hL]; exact hs1
                        have HS1 := Lib.hid hs1
                        have HVS := Lib.hid hvs
                        clear hL hs1 hvs
                        obtain ⟨g3, c3', hA3, -, hg3⟩ := own_shape_pos (S.out.own 1 rfl) (show 0 < t.snd.length by omega)
                        injection hA3 with hA3 _ hcc
                        subst hA3
                        have hset := sndCells_set L k ⟨sw, sl + u, sh + u⟩ (by rw [hLl]; exact hlt)
                        obtain ⟨d0, d1, d2, hc0, hc1, hc2⟩ := sndCells_all L k (by rw [hLl]; exact hlt)
                        have y0 := own_at2 (S.out.own 1 rfl) hc0
                        have y1 := own_at2 (S.out.own 1 rfl) hc1
                        have y2 := own_at2 (S.out.own 1 rfl) hc2
                        have u0 := (S.out.own 1 rfl).frozenAt (k * 3)
                        have u1 := (S.out.own 1 rfl).frozenAt (k * 3 + 1)
                        have u2 := (S.out.own 1 rfl).frozenAt (k * 3 + 2)
                        have hlt1 := S.out.lt 0 rfl
                        have hlt2 := S.out.lt 4 rfl
                        have hlt3 := S.out.lt 3 rfl
                        have q1 := S.out.get 4 1 rfl rfl
                        have qu := S.out.get 3 3 rfl rfl
                        clear hc0 hc1 hc2 hLl hcc
                        have S2 := Lib.hid (((S.out.put 1 (k * 3) (I sw) rfl).put 1 (k * 3 + 1) (I (sl + u)) rfl).put 1 (k * 3 + 2) (I (sh + u)) rfl)
                        dsimp only [List.set_cons_zero, List.set_cons_succ] at S2
                        dsimp only at hset
                        rw [hset] at S2
                        have S2 := Lib.hid (S2.out.alloc [I sw, I sl, I sh] 57)
                        clear hset
                        obtain ⟨hr1, hr2, hr3, hr4, hr5⟩ := HVS.out
                        go_wp2_with fail
                        go_roundw
                        case rel => exact ⟨k + 1, by omega, by go_num, Lib.hid (by rw [HS1.out]; exact S2.out.tail.fix)⟩
                        case measure => first | (simp [intOf]; done) | (simp [intOf]; omega)
                      · have hkn : k = t.snd.length := by omega
                        rw [hkn, mapTo_all] at S
                        have hki : ¬ (t.snd.length : Int) < (t.snd.length : Int) := by omega
                        rw [hkn]
                        clear hkn hlt hk
                        have S := Lib.hid (show St w _ _ [.box wc.heap.size [I (shiftT u t).wells, .slice Ax (shiftT u t).snd.length cx, .slice Ay (shiftT u t).slp.length cy], .own 57 3 (.slice Ax (shiftT u t).snd.length cx) (shiftT u t).snd.length (sndCells (shiftT u t).snd), .own 47 4 (.slice Ay (shiftT u t).slp.length cy) (shiftT u t).slp.length (slpCells (shiftT u t).slp), .box (w.heap.size + 1) [I x, I y, I z, I u], .box w.heap.size [I t.wells, .slice A1 t.snd.length c1, .slice A2 t.slp.length c2]] from (by rw [(shift_many u t).1, (shift_many u t).2]; exact S.out))
                        have hlo := (shift_many u t).1
                        have hlp := (shift_many u t).2
                        obtain ⟨o, ho⟩ : ∃ o, shiftT u t = o := ⟨_, rfl⟩
                        have HSA := Lib.hid (fun hv : valid o = true => show openE o true = 0 ∧ (∀ w : Nat, (w : Int) < t.wells → (lowL o).getD w 0 = (lowL t).getD w 0 + u ∧ (highL o).getD w 0 = (highL t).getD w 0 + u) ∧ ∀ a b, isWell t.wells a = true → isWell t.wells b = true → differP o a b = differP t a b by
                          rw [← ho] at hv ⊢; exact shift_said HO.out HDA.out hv)
                        have HOW := Lib.hid (show o.wells = t.wells by rw [← ho]; rfl)
                        rw [ho] at S hlo hlp
                        have HLO := Lib.hid (And.intro hlo hlp)
                        have hki2 : ¬ ((t.snd.length : Nat) : Int) < ((o.snd.length : Nat) : Int) := by omega
                        clear ho hlo hlp p1 hki
                        have q_copy0 := S.out.get 0 0 rfl rfl
                        have q_copy1 := S.out.get 0 1 rfl rfl
                        have q_copy2 := S.out.get 0 2 rfl rfl
                        go_wp2_with fail
                        clear hki2
                        clear q_copy0 q_copy1 q_copy2
                        cases hr2 : readyB o
                        · have HR2 := Lib.hid hr2
                          clear hr2
                          refine (ready_any _ o _ ⟨_, _, rfl, S.out.row 1 rfl, S.out.row 2 rfl⟩).mono ?_
                          rintro e w4 ⟨rfl, hb⟩
                          rw [HR2.out]
                          have S := Lib.hid (S.out.call hb)
                          clear hb
                          go_wp2_with fail
                          refine (works_any _).mono ?_
                          rintro e w5 ⟨rfl, hb⟩
                          have S := Lib.hid (S.out.call hb)
                          clear hb
                          go_wp2_with fail
                          go_ret
                          exact ⟨rfl, S.out.bel⟩
                        · have HR2 := Lib.hid hr2
                          have HV2 := Lib.hid (readyB_true hr2).1
                          obtain ⟨ho2, htl, hdf⟩ := HSA.out HV2.out
                          have HO2 := Lib.hid ho2
                          have HTL := Lib.hid htl
                          have HDO := Lib.hid (show differP o x y = (⟨dl, dh⟩, 0) by rw [hdf x y Hx.out Hy.out]; exact HDT.out)
                          clear hr2 ho2 htl hdf
                          refine (ready_any _ o _ ⟨_, _, rfl, S.out.row 1 rfl, S.out.row 2 rfl⟩).mono ?_
                          rintro e w4 ⟨rfl, hb⟩
                          rw [HR2.out]
                          have S := Lib.hid (S.out.call hb)
                          clear hb
                          have q_town0 := S.out.get 4 0 rfl rfl
                          have q_town1 := S.out.get 4 1 rfl rfl
                          have q_town2 := S.out.get 4 2 rfl rfl
                          go_wp2_with fail
                          refine (ends_yes _ t _ ⟨_, _, rfl, HSN.out.below S.out.bel, HSP.out.below S.out.bel⟩ HO.out HV.out).mono ?_
                          rintro e w5 ⟨u1, u2, rfl, h1, h2, hb⟩
                          obtain ⟨B1, d1, rfl, -, -, -⟩ := id h1.open_
                          obtain ⟨C1, e1, rfl, -, -, -⟩ := id h2.open_
                          have HE1 := Lib.hid h1
                          have HE2 := Lib.hid h2
                          clear h1 h2
                          have S := Lib.hid (S.out.call hb)
                          clear hb
                          clear q_town0 q_town1 q_town2
                          have q_copy0 := S.out.get 0 0 rfl rfl
                          have q_copy1 := S.out.get 0 1 rfl rfl
                          have q_copy2 := S.out.get 0 2 rfl rfl
                          go_wp2_with fail
                          refine (ends_yes _ o _ ⟨_, _, rfl, S.out.row 1 rfl, S.out.row 2 rfl⟩ HO2.out HV2.out).mono ?_
                          rintro e w6 ⟨u1, u2, rfl, h1, h2, hb⟩
                          obtain ⟨B2, d2, rfl, -, -, -⟩ := id h1.open_
                          obtain ⟨C2, e2, rfl, -, -, -⟩ := id h2.open_
                          have HF1 := Lib.hid h1
                          have HF2 := Lib.hid h2
                          clear h1 h2
                          have HE1 := Lib.hid (Ints.below HE1.out hb)
                          have HE2 := Lib.hid (Ints.below HE2.out hb)
                          have S := Lib.hid (S.out.call hb)
                          clear hb
                          clear q_copy0 q_copy1 q_copy2
                          go_wp2_with fail
                          have HSB := S
                          go_loopw [19] (fun i wr => ∃ k : Nat, k ≤ N ∧ i = I k ∧ Hid (St w6 wr wr.heap.size [])) (fun i _ => N - (intOf i).toNat)
                          case atStart => exact ⟨0, by omega, rfl, Lib.hid (St.init _)⟩
                          case round =>
                            clear S
                            obtain ⟨k, hk, rfl, S⟩ := hrel
                            have q0 := keep_cell S.out.bel (HSB.out.get 4 0 rfl rfl)
                            by_cases hlt : k < N
                            · have hki : (k : Int) < t.wells := by rw [HNW.out]; omega
                              have hv1 := (lowL_get (t := t) (w := k) hki)
                              have hv2 := (highL_get (t := t) (w := k) hki)
                              obtain ⟨hv3, hv4⟩ := HTL.out k hki
                              obtain ⟨a1, ha1⟩ : ∃ x, (lowL t).getD k 0 = x := ⟨_, rfl⟩
                              obtain ⟨a2, ha2⟩ : ∃ x, (highL t).getD k 0 = x := ⟨_, rfl⟩
                              rw [ha1] at hv1 hv3
                              rw [ha2] at hv2 hv4
                              obtain ⟨-, z1⟩ := HE1.out.at_get rfl
                              obtain ⟨-, z2⟩ := HE2.out.at_get rfl
                              obtain ⟨-, z3⟩ := HF1.out.at_get rfl
                              obtain ⟨-, z4⟩ := HF2.out.at_get rfl
                              have hl1 := lowL_len t
                              have hl2 := highL_len t
                              have hl3 := lowL_len o
                              have hl4 := highL_len o
                              rw [HOW.out] at hl3 hl4
                              have hkn : k < t.wells.toNat := by omega
                              obtain ⟨e1, e2, rfl, -, z1⟩ := z1 (by omega)
                              obtain ⟨f1, f2, rfl, -, z2⟩ := z2 (by omega)
                              obtain ⟨g1, g2, rfl, -, z3⟩ := z3 (by omega)
                              obtain ⟨h1, h2, rfl, -, z4⟩ := z4 (by omega)
                              have z1 := keep_cell S.out.bel (z1 k (by omega))
                              have z2 := keep_cell S.out.bel (z2 k (by omega))
                              have z3 := keep_cell S.out.bel (z3 k (by omega))
                              have z4 := keep_cell S.out.bel (z4 k (by omega))
                              rw [ha1] at z1
                              rw [ha2] at z2
                              rw [hv3] at z3
                              rw [hv4] at z4
                              have r1 : 0 ≤ a1 ∧ a1 ≤ 99 := ownB_low' HO.out hki ha1
                              have r2 : 0 ≤ a2 ∧ a2 ≤ 99 := ownB_high' HO.out hki ha2
                              have b1 : ((k : Nat) : Int) < ((lowL t).length : Int) := by omega
                              have b2 : ((k : Nat) : Int) < ((highL t).length : Int) := by omega
                              have b3 : ((k : Nat) : Int) < ((lowL o).length : Int) := by omega
                              have b4 : ((k : Nat) : Int) < ((highL o).length : Int) := by omega
                              clear hl1 hl2 hl3 hl4 hv1 hv2 hv3 hv4 ha1 ha2 hkn
                              have t1 : (a1 + u != a1 + u) = false := by simp
                              have t2 : (a2 + u != a2 + u) = false := by simp
                              go_wp2_with fail
                              have qu := cell_regrown (keep_cell S.out.bel (HSB.out.get 3 3 rfl rfl))
                              have z1 := cell_regrown z1
                              have z2 := cell_regrown z2
                              have z3 := cell_regrown z3
                              have z4 := cell_regrown z4
                              refine wp_region_ext (by kernel_rfl) (by kernel_rfl) ?_
                              repeat (first | go_big_quiet_step (fail) | quiet_step (fail))
                              refine wpQuiet_nil ?_
                              clear z1 z2 z3 z4 qu q0
                              intro wq hbq
                              have S := Lib.hid (S.out.call hbq)
                              go_wp2_with fail
                              go_roundw
                              case rel => exact ⟨k + 1, by omega, by go_num, Lib.hid S.out.fix⟩
                              case measure => first | (simp [intOf]; done) | (simp [intOf]; omega)
                            · have hki : ¬ (k : Int) < t.wells := by rw [HNW.out]; omega
                              have S := Lib.hid (HSB.out.call S.out.bel)
                              clear HSB q0
                              have q_town0 := S.out.get 4 0 rfl rfl
                              have q_town1 := S.out.get 4 1 rfl rfl
                              have q_town2 := S.out.get 4 2 rfl rfl
                              have q_ask0 := S.out.get 3 0 rfl rfl
                              have q_ask1 := S.out.get 3 1 rfl rfl
                              go_wp2_with fail
                              clear hki hlt hk
                              refine (differ_any _ t x y _ ⟨_, _, rfl, HSN.out.below S.out.bel, HSP.out.below S.out.bel⟩).mono ?_
                              rintro e w7 ⟨rfl, hb⟩
                              rw [HDT.out]
                              have S := Lib.hid ((S.out.call hb).alloc [I dl, I dh] 40)
                              clear hb
                              clear q_town0 q_town1 q_town2 q_ask0 q_ask1
                              have q_copy0 := S.out.get 1 0 rfl rfl
                              have q_copy1 := S.out.get 1 1 rfl rfl
                              have q_copy2 := S.out.get 1 2 rfl rfl
                              have q_ask0 := S.out.get 4 0 rfl rfl
                              have q_ask1 := S.out.get 4 1 rfl rfl
                              go_wp2_with fail
                              refine (differ_any _ o x y _ ⟨_, _, rfl, S.out.row 2 rfl, S.out.row 3 rfl⟩).mono ?_
                              rintro e w8 ⟨rfl, hb⟩
                              rw [HDO.out]
                              have S := Lib.hid ((S.out.call hb).alloc [I dl, I dh] 40)
                              clear hb
                              clear q_copy0 q_copy1 q_copy2 q_ask0 q_ask1
                              have e1x : ∀ w, (binOp .eql 40 (Sp.val ⟨dl, dh⟩) (Sp.val ⟨dl, dh⟩)).run Try.prog w = .ok (.bool true) w := fun w => by rw [span_eql]; simp
                              have q_d0 := S.out.get 1 0 rfl rfl
                              have q_d1 := S.out.get 1 1 rfl rfl
                              have q_d20 := S.out.get 0 0 rfl rfl
                              have q_d21 := S.out.get 0 1 rfl rfl
                              go_wp2_with fail
                              clear e1x
                              refine (works_any _).mono ?_
                              rintro e w9 ⟨rfl, hb⟩
                              have S := Lib.hid (S.out.call hb)
                              clear hb
                              clear q_d0 q_d1 q_d20 q_d21
                              go_wp2_with fail
                              go_ret
                              exact ⟨rfl, S.out.bel⟩
              · exact absurd (HLS.out.symm.trans hs') (by simp)
            · have HLS := Lib.hid (show spansR t = none from spans_three HV.out h)
              clear h
              refine (spans_any _ t _ ⟨_, _, rfl, HSN.out.below S.out.bel, HSP.out.below S.out.bel⟩ HVL.out (by omega) (by omega)).mono ?_
              rintro e w4 (⟨l', v', hs', rfl, ho, hb⟩ | ⟨hs', rfl, hb⟩)
              · exact absurd (HLS.out.symm.trans hs') (by simp)
              · have S := Lib.hid (S.out.call hb)
                clear hb hs'
                clear q_town0 q_town1 q_town2 q_ask0 q_ask1 q_ask3
                go_wp2_with fail
                refine (works_any _).mono ?_
                rintro e w4 ⟨rfl, hb⟩
                have S := Lib.hid (S.out.call hb)
                clear hb
                have q_town0 := S.out.get 1 0 rfl rfl
                have q_town1 := S.out.get 1 1 rfl rfl
                have q_town2 := S.out.get 1 2 rfl rfl
                have q_ask0 := S.out.get 0 0 rfl rfl
                have q_ask1 := S.out.get 0 1 rfl rfl
                have q_ask3 := S.out.get 0 3 rfl rfl
                go_wp2_with fail
                go_ret
                exact ⟨rfl, S.out.bel⟩

end Go.Proofs.Ytplbaijdnpfdgaa
