/- Walk of reckon: the table of all stretches, for the measure at worst. -/
import Derived.Test.YtbddaemekgflmaaW4
namespace Go.Proofs.Ytbddaemekgflmaa
open Go.RowKit Go.Sort

set_option maxRecDepth 100000 in
set_option maxHeartbeats 4000000 in
theorem reckW_any (v : Value) (d : DLine) (w : World) (hv : LineAt w v d) (hd : valid d = true) :
    Calls Try.prog 60 #[v, .iface 80 v] w (RetTab w (entF (worstP d) d.odds.length)) := by
  have HV := Lib.hid hv
  obtain ⟨pv, ov, rfl, hpp, ho⟩ := hv
  obtain ⟨A, c, rfl, hnc, hcm, _⟩ := ho.open_
  have hb0 : ∀ x, Below w.heap.size w (w.alloc x) := fun x => (Below.refl _ _).alloc (Nat.le_refl _) _
  have hn := (valid_spec hd).1
  have HD := Lib.hid hd
  have HS := Lib.hid (worst_small hd)
  clear hpp ho hd
  go_enter Try.func60, Try.ntmps60
  go_wp2_with fail
  go_loopw [6] (fun m wr => ∃ many : Nat, 2 ≤ many ∧ many ≤ max 2 (d.odds.length + 1) ∧ m = I many ∧ RS w wr pv (.slice A d.odds.length c) (entN (worstP d) d.odds.length many 0 (0, 0))) (fun m _ => 10 - (intOf m).toNat)
  case atStart =>
    refine ⟨2, by omega, by omega, rfl, ⟨((Below.refl _ _).alloc (Nat.le_refl _) _).alloc (by simp) _, by simp [go_sem], by simp [go_sem], fun i j hi hj => ?_, fun o => by simp [go_sem]⟩⟩
    have hz : ∀ k, k < 128 → ((w.alloc (.cells #[pv, .slice A d.odds.length c] 25)).alloc (.cells Try.zeroCells100 100)).cell? ⟨w.heap.size + 1, k, none⟩ = some (I 0) := by
      intro k hk
      have := box_cell (w.alloc (.cells #[pv, .slice A d.odds.length c] 25)) Try.zeroCells100 100 k (v := I 0) (by rw [zero_tab]; simp [hk])
      simpa using this
    rw [← entN_start]
    exact ⟨hz _ (by omega), hz _ (by omega)⟩
  case round =>
    obtain ⟨many, hm2, hm, rfl, hrs⟩ := hrel
    by_cases hmn : many ≤ d.odds.length
    · have h0 := hrs.c0
      have h1 := hrs.c1
      have hz := hrs.size
      have HRS := Lib.hid hrs; clear hrs
      go_wp2_with fail
      obtain ⟨wo, rfl⟩ : ∃ wo : World, wo = wr := ⟨_, rfl⟩
      clear h0 h1 hz
      go_loopw [7] (fun f wr => ∃ frm : Nat, frm + many ≤ d.odds.length + 1 ∧ f = I frm ∧ RS w wr pv (.slice A d.odds.length c) (entN (worstP d) d.odds.length many frm (0, 0))) (fun f _ => 10 - (intOf f).toNat)
      case atStart => exact ⟨0, by omega, rfl, HRS.out⟩
      case round =>
        obtain ⟨frm, hf, rfl, hrs⟩ := hrel
        by_cases hfm : frm + many ≤ d.odds.length
        · have h0 := hrs.c0
          have h1 := hrs.c1
          have hz := hrs.size
          have HRS2 := Lib.hid hrs; clear hrs
          have hf8 : frm < 8 := by omega
          have ht8 : frm + many < 8 := by omega
          go_wp2_with fail
          obtain ⟨wm, rfl⟩ : ∃ wm : World, wm = wr := ⟨_, rfl⟩
          clear h0 h1 hz
          go_loopw [10] (fun q wr => ∃ p : Nat, frm < p ∧ p ≤ frm + many ∧ q = I p ∧ RS w wr pv (.slice A d.odds.length c) (entN (worstP d) d.odds.length many frm (argmin (tabG (worstP d) many frm) frm (p - frm - 1)))) (fun q _ => 20 - (intOf q).toNat)
          case atStart => exact ⟨frm + 1, by omega, by omega, by go_num, HRS2.out.congr fun i j _ _ => by simp [argmin]⟩
          case round =>
            obtain ⟨p, hp1, hp2, rfl, hrs⟩ := hrel
            by_cases hpm : p < frm + many
            · have hz := hrs.size
              have hp8 : p < 8 := by omega
              have e1 : entN (worstP d) d.odds.length many frm (argmin (tabG (worstP d) many frm) frm (p - frm - 1)) frm p = tab (worstP d) (p - frm) frm := by
                unfold entN; rw [if_neg (by omega), if_pos (by omega)]
              have e2 : entN (worstP d) d.odds.length many frm (argmin (tabG (worstP d) many frm) frm (p - frm - 1)) p (frm + many) = tab (worstP d) (frm + many - p) p := by
                unfold entN; rw [if_neg (by omega), if_pos (by omega)]
              have e3 : entN (worstP d) d.odds.length many frm (argmin (tabG (worstP d) many frm) frm (p - frm - 1)) frm (frm + many) = argmin (tabG (worstP d) many frm) frm (p - frm - 1) := by
                unfold entN; rw [if_neg (by omega), if_neg (by omega), if_pos (by omega)]
              have t1 := (hrs.tab frm p hf8 hp8).1
              have t2 := (hrs.tab p (frm + many) hp8 ht8).1
              rw [e1] at t1
              rw [e2] at t2
              have k1 := cell_regrown t1
              have k2 := cell_regrown t2
              have s1 := tab_small HS.out (p - frm) frm (by omega)
              have s2 := tab_small HS.out (frm + many - p) p (by omega)
              have c1 := ext_call (w := wr) fun W hW => partW_any _ d frm p (frm + many) (tab (worstP d) (p - frm) frm).1 (tab (worstP d) (frm + many - p) p).1 W (HV.out.below (bto hrs.below hW)) (by omega) (by have := (valid_spec HD.out).2.1; omega) (fun x hx => ((valid_spec HD.out).2.2.1 x hx).2.2) s1.1 (by omega) s2.1 (by omega)
              have hg : worstP d (frm : Int).toNat (p : Int).toNat ((frm : Int) + (many : Int)).toNat (tab (worstP d) (p - frm) frm).1 (tab (worstP d) (frm + many - p) p).1 = tabG (worstP d) many frm p := by
                rw [Int.toNat_natCast, Int.toNat_natCast, show ((frm : Int) + (many : Int)).toNat = frm + many from by omega]; unfold tabG; rfl
              rw [hg] at c1
              have HE3 := Lib.hid e3
              clear t1 t2 e1 e2 e3 hg s1 s2
              have HRS3 := Lib.hid hrs; clear hrs
              go_wp2_with fail
              have hnil := nilA
              have hmet := metA
              refine wp_region_ext (by kernel_rfl) (by kernel_rfl) ?_
              repeat (first | go_big_quiet_step (exact c1 _ _) | quiet_step (exact c1 _ _))
              refine wpQuiet_nil ?_
              intro w1 hb1
              have hrs := HRS3.out.ext hb1
              obtain ⟨t4, t5⟩ := hrs.tab frm (frm + many) hf8 ht8
              rw [HE3.out] at t4 t5
              have hfr := hrs.fr
              have hz := hrs.size
              have HRS4 := Lib.hid hrs
              clear hrs hb1 k1 k2 c1 hnil hmet
              have HA := Lib.hid (show argmin (tabG (worstP d) many frm) frm (p + 1 - frm - 1) = if (argmin (tabG (worstP d) many frm) frm (p - frm - 1)).2 = 0 ∨ tabG (worstP d) many frm p < (argmin (tabG (worstP d) many frm) frm (p - frm - 1)).1 then (tabG (worstP d) many frm p, p) else argmin (tabG (worstP d) many frm) frm (p - frm - 1) by
                have hk : p + 1 - frm - 1 = (p - frm - 1) + 1 := by omega
                have hk2 : frm + (p - frm - 1) + 1 = p := by omega
                rw [hk, argmin, hk2])
              by_cases hc0 : (argmin (tabG (worstP d) many frm) frm (p - frm - 1)).2 = 0
              · have hc0' : (((argmin (tabG (worstP d) many frm) frm (p - frm - 1)).2 : Int) == 0) = true := by rw [hc0]; rfl
                have HC0 := Lib.hid hc0
                clear hc0
                go_wp2_with fail
                go_roundw
                case rel => exact ⟨p + 1, by omega, by omega, by go_num, (HRS4.out.store frm (frm + many) hf8 ht8 _ p).congr fun i j _ _ => by rw [entN_cur (by omega) (by omega), HA.out, if_pos (.inl HC0.out)]⟩
                case measure => simp [intOf]; omega
              · have hc0' : (((argmin (tabG (worstP d) many frm) frm (p - frm - 1)).2 : Int) == 0) = false := by simpa using hc0
                have HC0 := Lib.hid hc0
                clear hc0
                by_cases hc1 : tabG (worstP d) many frm p < (argmin (tabG (worstP d) many frm) frm (p - frm - 1)).1
                · go_wp2_with fail
                  go_roundw
                  case rel => exact ⟨p + 1, by omega, by omega, by go_num, (HRS4.out.store frm (frm + many) hf8 ht8 _ p).congr fun i j _ _ => by rw [entN_cur (by omega) (by omega), HA.out, if_pos (.inr hc1)]⟩
                  case measure => simp [intOf]; omega
                · go_wp2_with fail
                  go_roundw
                  case rel => exact ⟨p + 1, by omega, by omega, by go_num, HRS4.out.congr fun i j _ _ => by rw [HA.out, if_neg (fun h => h.elim HC0.out hc1)]⟩
                  case measure => simp [intOf]; omega
            · obtain rfl : p = frm + many := by omega
              have HRS3 := Lib.hid hrs
              clear hrs
              go_wp2_with fail
              go_roundw
              case rel => exact ⟨frm + 1, by omega, by go_num, HRS3.out.congr fun i j _ _ => by
                rw [← entN_next, tab_eq, show frm + many - frm - 1 = many - 1 from by omega]⟩
              case measure => simp [intOf]; omega
        · have h0 := hrs.c0
          have h1 := hrs.c1
          have hz := hrs.size
          have HRS3 := Lib.hid hrs
          clear hrs
          go_wp2_with fail
          go_roundw
          case rel => exact ⟨many + 1, by omega, by omega, by go_num, HRS3.out.congr fun i j _ _ => entN_row (by omega) i j⟩
          case measure => simp [intOf]; omega
    · have h0 := hrs.c0
      have h1 := hrs.c1
      have hz := hrs.size
      have HRS3 := Lib.hid hrs
      clear hrs
      go_wp2_with fail
      go_ret
      exact ⟨_, rfl, (HRS3.out.congr fun i j _ _ => entN_end (by omega) i j).tab, HRS3.out.below⟩
end Go.Proofs.Ytbddaemekgflmaa
