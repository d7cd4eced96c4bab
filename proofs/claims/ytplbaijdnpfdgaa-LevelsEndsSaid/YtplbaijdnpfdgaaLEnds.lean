/- The law LevelsEnds walked. -/
import Derived.Test.YtplbaijdnpfdgaaV1
namespace Go.Proofs.Ytplbaijdnpfdgaa
open Go.RowKit Go.Sort

theorem addP_valid {t : Twn} (h : valid t = true) (hm : t.snd.length + t.slp.length ≤ 7) {s : Slp} (hs : 0 ≤ s.a ∧ s.a < t.wells ∧ 0 ≤ s.b ∧ s.b < t.wells ∧ s.a ≠ s.b ∧ -99 ≤ s.low ∧ s.low ≤ s.high ∧ s.high ≤ 99) : valid (addP t s) = true := by
  have hv := valid_vl h
  refine valid_iff'.2 ⟨⟨hv.w0, hv.w6, hv.snd, fun u hu => ?_⟩, by show t.snd.length ≤ 8; omega, by simp [addP]; omega⟩
  rcases List.mem_append.1 hu with hu | hu
  · exact hv.slp u hu
  · rw [List.mem_singleton.1 hu]; exact hs
theorem addS_valid {t : Twn} (h : valid t = true) (hm : t.snd.length + t.slp.length ≤ 7) {s : Snd} (hs : 0 ≤ s.well ∧ s.well < t.wells ∧ 0 ≤ s.low ∧ s.low ≤ s.high ∧ s.high ≤ 99) : valid (addS t s) = true :=
  valid_iff'.2 ⟨(valid_vl h).addS hs, by simp [addS]; omega, by show t.slp.length ≤ 8; omega⟩
/-- Differ, and what one slope more leaves. -/
theorem ends_differ {t : Twn} (h : openE t true = 0) (hm : t.snd.length + t.slp.length ≤ 7) {a b : Int} (ha : isWell t.wells a = true) (hb : isWell t.wells b = true) :
    ∃ dl dh, differP t a b = (⟨dl, dh⟩, 0) ∧ (-99 ≤ dl ∧ dl ≤ dh ∧ dh ≤ 99) ∧ ∀ n, a ≠ b → -99 ≤ n → n ≤ 99 → valid (addP t ⟨a, b, n, n⟩) = true ∧ ((n = dl ∨ n = dh) → openE (addP t ⟨a, b, n, n⟩) true = 0) ∧ ((n < dl ∨ dh < n) → openE (addP t ⟨a, b, n, n⟩) true = 3) := by
  obtain ⟨dl, dh, hd, ⟨x, hx, ex⟩, ⟨y, hy, ey⟩, hall⟩ := differ_one h ha hb
  have a1 := isWell_iff.1 ha
  have b1 := isWell_iff.1 hb
  have ox := hx.own a.toNat (by omega)
  have ox2 := hx.own b.toNat (by omega)
  have oy := hy.own a.toNat (by omega)
  have oy2 := hy.own b.toNat (by omega)
  have hdd := hall x hx
  refine ⟨dl, dh, hd, by omega, fun n hne h1 h2 => ?_⟩
  have hv := addP_valid (openE_zero' h).1 hm (s := ⟨a, b, n, n⟩) (by dsimp only; omega)
  refine ⟨hv, fun hn => ?_, fun hn => openE_three_of hv fun ⟨z, hz⟩ => ?_⟩
  · rcases hn with rfl | rfl
    · exact open_of_truth hv (tr_addP.2 ⟨hx, by dsimp only; omega⟩)
    · exact open_of_truth hv (tr_addP.2 ⟨hy, by dsimp only; omega⟩)
  · obtain ⟨h3, h4⟩ := tr_addP.1 hz
    have := hall z h3
    dsimp only at h4
    omega
theorem ends_level {t : Twn} (h : openE t true = 0) (hm : t.snd.length + t.slp.length ≤ 7) {a : Int} (ha : isWell t.wells a = true) :
    ∃ dl dh, levelP t a = (⟨dl, dh⟩, 0) ∧ (0 ≤ dl ∧ dl ≤ dh ∧ dh ≤ 99) ∧ ∀ n, 0 ≤ n → n ≤ 99 → valid (addS t ⟨a, n, n⟩) = true ∧ ((n = dl ∨ n = dh) → openE (addS t ⟨a, n, n⟩) true = 0) ∧ ((n < dl ∨ dh < n) → openE (addS t ⟨a, n, n⟩) true = 3) := by
  have a1 := isWell_iff.1 ha
  have haw : (a.toNat : Int) < t.wells := by omega
  obtain ⟨⟨x, hx, ex⟩, ⟨y, hy, ey⟩⟩ := lvl_one h haw
  have hall := fun z hz => each_level h (x := z) hz haw
  have hl := level_zero h ha
  obtain ⟨dl, hdl⟩ : ∃ x, (lvl (closeM (baseM t)) a.toNat).low = x := ⟨_, rfl⟩
  obtain ⟨dh, hdh⟩ : ∃ x, (lvl (closeM (baseM t)) a.toNat).high = x := ⟨_, rfl⟩
  rw [hdl, hdh] at hl
  rw [hdl] at ex
  rw [hdh] at ey
  simp only [hdl, hdh] at hall
  have ox := hx.own a.toNat haw
  have oy := hy.own a.toNat haw
  have hdd := hall x hx
  refine ⟨dl, dh, hl, by omega, fun n h1 h2 => ?_⟩
  have hv := addS_valid (openE_zero' h).1 hm (s := ⟨a, n, n⟩) (by dsimp only; omega)
  refine ⟨hv, fun hn => ?_, fun hn => openE_three_of hv fun ⟨z, hz⟩ => ?_⟩
  · rcases hn with rfl | rfl
    · exact open_of_truth hv (tr_addS.2 ⟨hx, by dsimp only; omega⟩)
    · exact open_of_truth hv (tr_addS.2 ⟨hy, by dsimp only; omega⟩)
  · obtain ⟨h3, h4⟩ := tr_addS.1 hz
    have := hall z h3
    dsimp only at h4
    omega

set_option maxRecDepth 100000 in
set_option maxHeartbeats 16000000 in
theorem lawEnds_any (v : Value) (t : Twn) (x y z u : Int) (w : World) (hv : TwnAt w v t) :
    Calls Try.prog 6 #[v, .agg #[I x, I y, I z, I u]] w fun e w' => e = .returned (.bool true) ∧ Below w.heap.size w w' := by
  obtain ⟨j0, ki, kz0, kz1, kz2⟩ := info_parts (P := Try.prog) (e := 47) (z := .agg #[.int .i64 0, .int .i64 0, .int .i64 0, .int .i64 0]) (size := 4) (bytes := 32) (by kernel_rfl)
  obtain ⟨sv, pv, rfl, hs, hp⟩ := hv
  have HSN := Lib.hid hs
  have HSP := Lib.hid hp
  obtain ⟨A1, c1, rfl, -, -, -⟩ := id hs.open_
  obtain ⟨A2, c2, rfl, -, -, -⟩ := id hp.open_
  clear hs hp
  have S := Lib.hid (show St w ((w.alloc (.cells #[I t.wells, .slice A1 t.snd.length c1, .slice A2 t.slp.length c2] 25)).alloc (.cells #[I x, I y, I z, I u] 38)) (w.heap.size + 1 + 1) [.box (w.heap.size + 1) [I x, I y, I z, I u], .box w.heap.size [I t.wells, .slice A1 t.snd.length c1, .slice A2 t.slp.length c2]] from ((St.init w).alloc [I t.wells, .slice A1 t.snd.length c1, .slice A2 t.slp.length c2] 25).alloc [I x, I y, I z, I u] 38)
  cases hr : readyB t
  · have HR := Lib.hid hr
    clear hr
    go_enter Try.func6, Try.ntmps6
    have q_town0 := S.out.get 1 0 rfl rfl
    have q_town1 := S.out.get 1 1 rfl rfl
    have q_town2 := S.out.get 1 2 rfl rfl
    have q_ask0 := S.out.get 0 0 rfl rfl
    have q_ask1 := S.out.get 0 1 rfl rfl
    go_wp2_with fail
    refine (ready_any _ t _ ⟨_, _, rfl, HSN.out.below S.out.bel, HSP.out.below S.out.bel⟩).mono ?_
    rintro e w1 ⟨rfl, hb⟩
    rw [HR.out]
    have S := Lib.hid (S.out.call hb)
    clear hb
    clear q_town0 q_town1 q_town2 q_ask0 q_ask1
    have q_town0 := S.out.get 1 0 rfl rfl
    have q_town1 := S.out.get 1 1 rfl rfl
    have q_town2 := S.out.get 1 2 rfl rfl
    have q_ask0 := S.out.get 0 0 rfl rfl
    have q_ask1 := S.out.get 0 1 rfl rfl
    go_wp2_with fail
    refine (works_any _).mono ?_
    rintro e w2 ⟨rfl, hb⟩
    have S := Lib.hid (S.out.call hb)
    clear hb
    clear q_town0 q_town1 q_town2 q_ask0 q_ask1
    have q_town0 := S.out.get 1 0 rfl rfl
    have q_town1 := S.out.get 1 1 rfl rfl
    have q_town2 := S.out.get 1 2 rfl rfl
    have q_ask0 := S.out.get 0 0 rfl rfl
    have q_ask1 := S.out.get 0 1 rfl rfl
    go_wp2_with fail
    go_ret
    exact ⟨rfl, S.out.bel⟩
  · have HR := Lib.hid hr
    obtain ⟨hv, h5, -, ht1, ht2⟩ := readyB_true hr
    have hw0 := (valid_vl hv).w0
    have hw6 : t.wells ≤ 1000 := by omega
    have HV := Lib.hid hv
    clear hv h5 hr
    go_enter Try.func6, Try.ntmps6
    have q_town0 := S.out.get 1 0 rfl rfl
    have q_town1 := S.out.get 1 1 rfl rfl
    have q_town2 := S.out.get 1 2 rfl rfl
    have q_ask0 := S.out.get 0 0 rfl rfl
    have q_ask1 := S.out.get 0 1 rfl rfl
    go_wp2_with fail
    refine (ready_any _ t _ ⟨_, _, rfl, HSN.out.below S.out.bel, HSP.out.below S.out.bel⟩).mono ?_
    rintro e w1 ⟨rfl, hb⟩
    rw [HR.out]
    have S := Lib.hid (S.out.call hb)
    clear hb
    clear q_town0 q_town1 q_town2 q_ask0 q_ask1
    have q_town0 := S.out.get 1 0 rfl rfl
    have q_town1 := S.out.get 1 1 rfl rfl
    have q_town2 := S.out.get 1 2 rfl rfl
    have q_ask0 := S.out.get 0 0 rfl rfl
    have q_ask1 := S.out.get 0 1 rfl rfl
    go_wp2_with fail
    cases h : isWell t.wells x
    · have Hx := Lib.hid h
      clear h
      refine (rIsWell_any t.wells x _ _ _ hw0 hw6 ⟨_, _, _, rfl⟩ ⟨_, _, _, rfl⟩).mono ?_
      rintro e w2 ⟨rfl, hb⟩
      rw [show isWell t.wells x = false from Hx.out]
      have S := Lib.hid (S.out.call hb)
      clear hb
      clear q_town0 q_town1 q_town2 q_ask0 q_ask1
      have q_town0 := S.out.get 1 0 rfl rfl
      have q_town1 := S.out.get 1 1 rfl rfl
      have q_town2 := S.out.get 1 2 rfl rfl
      have q_ask0 := S.out.get 0 0 rfl rfl
      have q_ask1 := S.out.get 0 1 rfl rfl
      go_wp2_with fail
      refine (works_any _).mono ?_
      rintro e w3 ⟨rfl, hb⟩
      have S := Lib.hid (S.out.call hb)
      clear hb
      clear q_town0 q_town1 q_town2 q_ask0 q_ask1
      have q_town0 := S.out.get 1 0 rfl rfl
      have q_town1 := S.out.get 1 1 rfl rfl
      have q_town2 := S.out.get 1 2 rfl rfl
      have q_ask0 := S.out.get 0 0 rfl rfl
      have q_ask1 := S.out.get 0 1 rfl rfl
      go_wp2_with fail
      go_ret
      exact ⟨rfl, S.out.bel⟩
    · have Hx := Lib.hid h
      clear h
      refine (rIsWell_any t.wells x _ _ _ hw0 hw6 ⟨_, _, _, rfl⟩ ⟨_, _, _, rfl⟩).mono ?_
      rintro e w2 ⟨rfl, hb⟩
      rw [show isWell t.wells x = true from Hx.out]
      have S := Lib.hid (S.out.call hb)
      clear hb
      clear q_town0 q_town1 q_town2 q_ask0 q_ask1
      have q_town0 := S.out.get 1 0 rfl rfl
      have q_town1 := S.out.get 1 1 rfl rfl
      have q_town2 := S.out.get 1 2 rfl rfl
      have q_ask0 := S.out.get 0 0 rfl rfl
      have q_ask1 := S.out.get 0 1 rfl rfl
      go_wp2_with fail
      cases h : isWell t.wells y
      · have Hy := Lib.hid h
        clear h
        refine (rIsWell_any t.wells y _ _ _ hw0 hw6 ⟨_, _, _, rfl⟩ ⟨_, _, _, rfl⟩).mono ?_
        rintro e w3 ⟨rfl, hb⟩
        rw [show isWell t.wells y = false from Hy.out]
        have S := Lib.hid (S.out.call hb)
        clear hb
        clear q_town0 q_town1 q_town2 q_ask0 q_ask1
        have q_town0 := S.out.get 1 0 rfl rfl
        have q_town1 := S.out.get 1 1 rfl rfl
        have q_town2 := S.out.get 1 2 rfl rfl
        have q_ask0 := S.out.get 0 0 rfl rfl
        have q_ask1 := S.out.get 0 1 rfl rfl
        go_wp2_with fail
        refine (works_any _).mono ?_
        rintro e w4 ⟨rfl, hb⟩
        have S := Lib.hid (S.out.call hb)
        clear hb
        clear q_town0 q_town1 q_town2 q_ask0 q_ask1
        have q_town0 := S.out.get 1 0 rfl rfl
        have q_town1 := S.out.get 1 1 rfl rfl
        have q_town2 := S.out.get 1 2 rfl rfl
        have q_ask0 := S.out.get 0 0 rfl rfl
        have q_ask1 := S.out.get 0 1 rfl rfl
        go_wp2_with fail
        go_ret
        exact ⟨rfl, S.out.bel⟩
      · have Hy := Lib.hid h
        clear h
        refine (rIsWell_any t.wells y _ _ _ hw0 hw6 ⟨_, _, _, rfl⟩ ⟨_, _, _, rfl⟩).mono ?_
        rintro e w3 ⟨rfl, hb⟩
        rw [show isWell t.wells y = true from Hy.out]
        have S := Lib.hid (S.out.call hb)
        clear hb
        clear q_town0 q_town1 q_town2 q_ask0 q_ask1
        have q_town0 := S.out.get 1 0 rfl rfl
        have q_town1 := S.out.get 1 1 rfl rfl
        have q_town2 := S.out.get 1 2 rfl rfl
        have q_ask0 := S.out.get 0 0 rfl rfl
        have q_ask1 := S.out.get 0 1 rfl rfl
        go_wp2_with fail
        obtain ⟨M, hM⟩ : ∃ M, t.snd.length + t.slp.length = M := ⟨_, rfl⟩
        have HM := Lib.hid hM
        by_cases hm7 : (7 : Int) < (M : Int)
        · clear hM
          refine (many_any _ t _ ⟨_, _, rfl, HSN.out.below S.out.bel, HSP.out.below S.out.bel⟩ (by omega) (by omega)).mono ?_
          rintro e w4 ⟨rfl, hb⟩
          rw [HM.out]
          have S := Lib.hid (S.out.call hb)
          clear hb
          clear q_town0 q_town1 q_town2 q_ask0 q_ask1
          have q_town0 := S.out.get 1 0 rfl rfl
          have q_town1 := S.out.get 1 1 rfl rfl
          have q_town2 := S.out.get 1 2 rfl rfl
          have q_ask0 := S.out.get 0 0 rfl rfl
          have q_ask1 := S.out.get 0 1 rfl rfl
          go_wp2_with fail
          refine (works_any _).mono ?_
          rintro e w5 ⟨rfl, hb⟩
          have S := Lib.hid (S.out.call hb)
          clear hb
          clear q_town0 q_town1 q_town2 q_ask0 q_ask1
          have q_town0 := S.out.get 1 0 rfl rfl
          have q_town1 := S.out.get 1 1 rfl rfl
          have q_town2 := S.out.get 1 2 rfl rfl
          have q_ask0 := S.out.get 0 0 rfl rfl
          have q_ask1 := S.out.get 0 1 rfl rfl
          go_wp2_with fail
          go_ret
          exact ⟨rfl, S.out.bel⟩
        · have HM7 := Lib.hid (show t.snd.length + t.slp.length ≤ 7 by omega)
          clear hM
          refine (many_any _ t _ ⟨_, _, rfl, HSN.out.below S.out.bel, HSP.out.below S.out.bel⟩ (by omega) (by omega)).mono ?_
          rintro e w4 ⟨rfl, hb⟩
          rw [HM.out]
          have S := Lib.hid (S.out.call hb)
          clear hb
          clear q_town0 q_town1 q_town2 q_ask0 q_ask1
          have q_town0 := S.out.get 1 0 rfl rfl
          have q_town1 := S.out.get 1 1 rfl rfl
          have q_town2 := S.out.get 1 2 rfl rfl
          have q_ask0 := S.out.get 0 0 rfl rfl
          have q_ask1 := S.out.get 0 1 rfl rfl
          go_wp2_with fail
          clear hm7
          rcases openE_cases HV.out with h | h
          · have HO := Lib.hid h
            obtain ⟨dl, dh, hd, ⟨d1, d2, d3⟩, hen⟩ := ends_differ h HM7.out Hx.out Hy.out
            have D := Lib.hid hd
            have HEN := Lib.hid hen
            clear hd hen h
            refine (differ_any _ t x y _ ⟨_, _, rfl, HSN.out.below S.out.bel, HSP.out.below S.out.bel⟩).mono ?_
            rintro e w5 ⟨rfl, hb⟩
            rw [D.out]
            have S := Lib.hid ((S.out.call hb).alloc [I dl, I dh] 40)
            clear hb
            clear q_town0 q_town1 q_town2 q_ask0 q_ask1
            have q_d0 := S.out.get 0 0 rfl rfl
            have q_d1 := S.out.get 0 1 rfl rfl
            have b1 : ¬ dl < -99 := by omega
            have b2 : ¬ 99 < dh := by omega
            have b3 : ¬ dh < dl := by omega
            go_wp2_with fail
            clear b1 b2 b3
            clear q_d0 q_d1
            go_loopw [7] (fun i wr => ∃ n : Int, dl - 1 ≤ n ∧ n ≤ dh + 2 ∧ i = I n ∧ Hid (St w wr wr.heap.size [.box w5.heap.size [I dl, I dh], .box (w.heap.size + 1) [I x, I y, I z, I u], .box w.heap.size [I t.wells, .slice A1 t.snd.length c1, .slice A2 t.slp.length c2]])) (fun i _ => (dh + 2 - intOf i).toNat)
            case atStart => exact ⟨dl - 1, by omega, by omega, by go_num, Lib.hid S.out.fix⟩
            case round =>
              clear S
              obtain ⟨n, hn1, hn2, rfl, S⟩ := hrel
              have q_d0 := S.out.get 0 0 rfl rfl
              have q_d1 := S.out.get 0 1 rfl rfl
              have q_town0 := S.out.get 2 0 rfl rfl
              have q_town1 := S.out.get 2 1 rfl rfl
              have q_town2 := S.out.get 2 2 rfl rfl
              have q_ask0 := S.out.get 1 0 rfl rfl
              have q_ask1 := S.out.get 1 1 rfl rfl
              by_cases hlt : n ≤ dh + 1
              · by_cases c0 : dl < n
                · by_cases c1 : n < dh
                  · go_wp2_with fail
                    go_roundw
                    case rel => exact ⟨n + 1, by omega, by omega, by go_num, Lib.hid S.out.fix⟩
                    case measure => first | (simp [intOf]; done) | (simp [intOf]; omega)
                  · by_cases c2 : n < -99
                    · exfalso
                      omega
                    · by_cases c3 : 99 < n
                      · go_wp2_with fail
                        go_roundw
                        case rel => exact ⟨n + 1, by omega, by omega, by go_num, Lib.hid S.out.fix⟩
                        case measure => first | (simp [intOf]; done) | (simp [intOf]; omega)
                      · cases c4 : x == y
                        · have hxy : x ≠ y := by simpa using c4
                          have HNV := Lib.hid (HEN.out n hxy (by omega) (by omega))
                          have HVO := Lib.hid HNV.out.1
                          clear hxy
                          go_wp2_with fail
                          clear q_d0 q_d1 q_town0 q_town1 q_town2 q_ask0 q_ask1
                          refine (copy_any _ t _ ⟨_, _, rfl, HSN.out.below S.out.bel, HSP.out.below S.out.bel⟩ (by omega) (by omega)).mono ?_
                          rintro e wc ⟨v', rfl, ⟨rv', sv', rfl, ho1, ho2⟩, hb⟩
                          obtain ⟨Ax, cx, rfl⟩ := own_shape ho1
                          obtain ⟨Ay, cy, rfl⟩ := own_shape ho2
                          have S := Lib.hid (S.out.take2 hb ho1 ho2 (by decide))
                          clear hb ho1 ho2
                          have S := Lib.hid (S.out.alloc [I t.wells, .slice Ax t.snd.length cx, .slice Ay t.slp.length cy] 25)
                          have k0 := S.out.get 0 2 rfl rfl
                          have k1 := S.out.get 4 0 rfl rfl
                          have k2 := S.out.get 4 1 rfl rfl
                          have h63 : t.slp.length + 1 ≤ maxLen := by simp only [maxLen]; omega
                          have hby : (t.slp.length + 1) * 32 ≤ 140737488355328 := by omega
                          have h02 : 0 < 4 := by decide
                          have T := Lib.hid (S.out.alloc [I x, I y, I n, I n] 47)
                          go_wp2_with (at_builtin; refine wpList_append_St T.out 3 rfl _ _ 23 rfl 47 j0 (.agg #[.int .i64 0, .int .i64 0, .int .i64 0, .int .i64 0]) 4 32 Try.underlying23 ki kz0 kz1 kz2 rfl h02 rfl rfl _ 1 [I x, I y, I n, I n] rfl (T.out.boxReads 0 rfl rfl (by omega)) (slps_one [⟨x, y, n, n⟩]) h63 hby ?_; intro vap wap hS5; rw [show t.slp.length + 1 = (addP t ⟨x, y, n, n⟩).slp.length from by simp [addP], show slpCells t.slp ++ [I x, I y, I n, I n] = slpCells (addP t ⟨x, y, n, n⟩).slp from by simp [addP, slpCells_snoc]] at hS5; obtain ⟨A5, c5, rfl⟩ := own_shape (hS5.own 3 rfl); have S := Lib.hid hS5; clear hS5 k0 k1 k2; have u0 := S.out.get 1 2 rfl rfl; have u1 := S.out.free 1 2 rfl; have S := Lib.hid ((S.out.set 1 2 (.slice A5 (addP t ⟨x, y, n, n⟩).slp.length c5) rfl).tail); have v0 := S.out.get 0 0 rfl rfl; have v1 := S.out.get 0 1 rfl rfl; have v2 := S.out.get 0 2 rfl rfl)
                          clear u0 u1
                          clear v0 v1 v2
                          by_cases hin : n = dl ∨ n = dh
                          · have HOO := Lib.hid (HNV.out.2.1 hin)
                            have HWI := Lib.hid (show inR n dl dh = true from inR_iff.2 (by omega))
                            clear hin
                            refine (ends_yes _ (addP t ⟨x, y, n, n⟩) _ ⟨_, _, rfl, S.out.row 1 rfl, S.out.row 2 rfl⟩ HOO.out HVO.out).mono ?_
                            rintro e w6 ⟨u1, u2, rfl, h1, h2, hb⟩
                            obtain ⟨B2, d2, rfl, -, -, -⟩ := id h1.open_
                            obtain ⟨C2, e2, rfl, -, -, -⟩ := id h2.open_
                            have HF1 := Lib.hid h1
                            have HF2 := Lib.hid h2
                            clear h1 h2
                            have S := Lib.hid (S.out.call hb)
                            clear hb
                            have q_d0 := S.out.get 3 0 rfl rfl
                            have q_d1 := S.out.get 3 1 rfl rfl
                            go_wp2_with fail
                            refine (rWithin_any _ _ _ _).mono ?_
                            rintro e w' ⟨rfl, rfl⟩
                            rw [HWI.out]
                            go_wp2_with fail
                            go_roundw
                            case rel => exact ⟨n + 1, by omega, by omega, by go_num, Lib.hid S.out.fix.tail.tail.tail⟩
                            case measure => first | (simp [intOf]; done) | (simp [intOf]; omega)
                          · have HOO := Lib.hid (HNV.out.2.2 (by omega))
                            have HWI := Lib.hid (show inR n dl dh = false from inR_not.2 (by omega))
                            clear hin
                            refine (ends_no _ (addP t ⟨x, y, n, n⟩) _ ⟨_, _, rfl, S.out.row 1 rfl, S.out.row 2 rfl⟩ HOO.out).mono ?_
                            rintro e w6 ⟨rfl, hb⟩
                            have S := Lib.hid (S.out.call hb)
                            clear hb
                            have q_d0 := S.out.get 3 0 rfl rfl
                            have q_d1 := S.out.get 3 1 rfl rfl
                            go_wp2_with fail
                            refine (rWithin_any _ _ _ _).mono ?_
                            rintro e w' ⟨rfl, rfl⟩
                            rw [HWI.out]
                            go_wp2_with fail
                            go_roundw
                            case rel => exact ⟨n + 1, by omega, by omega, by go_num, Lib.hid S.out.fix.tail.tail.tail⟩
                            case measure => first | (simp [intOf]; done) | (simp [intOf]; omega)
                        · go_wp2_with fail
                          go_roundw
                          case rel => exact ⟨n + 1, by omega, by omega, by go_num, Lib.hid S.out.fix⟩
                          case measure => first | (simp [intOf]; done) | (simp [intOf]; omega)
                · by_cases c2 : n < -99
                  · go_wp2_with fail
                    go_roundw
                    case rel => exact ⟨n + 1, by omega, by omega, by go_num, Lib.hid S.out.fix⟩
                    case measure => first | (simp [intOf]; done) | (simp [intOf]; omega)
                  · by_cases c3 : 99 < n
                    · exfalso
                      omega
                    · cases c4 : x == y
                      · have hxy : x ≠ y := by simpa using c4
                        have HNV := Lib.hid (HEN.out n hxy (by omega) (by omega))
                        have HVO := Lib.hid HNV.out.1
                        clear hxy
                        go_wp2_with fail
                        clear q_d0 q_d1 q_town0 q_town1 q_town2 q_ask0 q_ask1
                        refine (copy_any _ t _ ⟨_, _, rfl, HSN.out.below S.out.bel, HSP.out.below S.out.bel⟩ (by omega) (by omega)).mono ?_
                        rintro e wc ⟨v', rfl, ⟨rv', sv', rfl, ho1, ho2⟩, hb⟩
                        obtain ⟨Ax, cx, rfl⟩ := own_shape ho1
                        obtain ⟨Ay, cy, rfl⟩ := own_shape ho2
                        have S := Lib.hid (S.out.take2 hb ho1 ho2 (by decide))
                        clear hb ho1 ho2
                        have S := Lib.hid (S.out.alloc [I t.wells, .slice Ax t.snd.length cx, .slice Ay t.slp.length cy] 25)
                        have k0 := S.out.get 0 2 rfl rfl
                        have k1 := S.out.get 4 0 rfl rfl
                        have k2 := S.out.get 4 1 rfl rfl
                        have h63 : t.slp.length + 1 ≤ maxLen := by simp only [maxLen]; omega
                        have hby : (t.slp.length + 1) * 32 ≤ 140737488355328 := by omega
                        have h02 : 0 < 4 := by decide
                        have T := Lib.hid (S.out.alloc [I x, I y, I n, I n] 47)
                        go_wp2_with (at_builtin; refine wpList_append_St T.out 3 rfl _ _ 23 rfl 47 j0 (.agg #[.int .i64 0, .int .i64 0, .int .i64 0, .int .i64 0]) 4 32 Try.underlying23 ki kz0 kz1 kz2 rfl h02 rfl rfl _ 1 [I x, I y, I n, I n] rfl (T.out.boxReads 0 rfl rfl (by omega)) (slps_one [⟨x, y, n, n⟩]) h63 hby ?_; intro vap wap hS5; rw [show t.slp.length + 1 = (addP t ⟨x, y, n, n⟩).slp.length from by simp [addP], show slpCells t.slp ++ [I x, I y, I n, I n] = slpCells (addP t ⟨x, y, n, n⟩).slp from by simp [addP, slpCells_snoc]] at hS5; obtain ⟨A5, c5, rfl⟩ := own_shape (hS5.own 3 rfl); have S := Lib.hid hS5; clear hS5 k0 k1 k2; have u0 := S.out.get 1 2 rfl rfl; have u1 := S.out.free 1 2 rfl; have S := Lib.hid ((S.out.set 1 2 (.slice A5 (addP t ⟨x, y, n, n⟩).slp.length c5) rfl).tail); have v0 := S.out.get 0 0 rfl rfl; have v1 := S.out.get 0 1 rfl rfl; have v2 := S.out.get 0 2 rfl rfl)
                        clear u0 u1
                        clear v0 v1 v2
                        by_cases hin : n = dl ∨ n = dh
                        · have HOO := Lib.hid (HNV.out.2.1 hin)
                          have HWI := Lib.hid (show inR n dl dh = true from inR_iff.2 (by omega))
                          clear hin
                          refine (ends_yes _ (addP t ⟨x, y, n, n⟩) _ ⟨_, _, rfl, S.out.row 1 rfl, S.out.row 2 rfl⟩ HOO.out HVO.out).mono ?_
                          rintro e w6 ⟨u1, u2, rfl, h1, h2, hb⟩
                          obtain ⟨B2, d2, rfl, -, -, -⟩ := id h1.open_
                          obtain ⟨C2, e2, rfl, -, -, -⟩ := id h2.open_
                          have HF1 := Lib.hid h1
                          have HF2 := Lib.hid h2
                          clear h1 h2
                          have S := Lib.hid (S.out.call hb)
                          clear hb
                          have q_d0 := S.out.get 3 0 rfl rfl
                          have q_d1 := S.out.get 3 1 rfl rfl
                          go_wp2_with fail
                          refine (rWithin_any _ _ _ _).mono ?_
                          rintro e w' ⟨rfl, rfl⟩
                          rw [HWI.out]
                          go_wp2_with fail
                          go_roundw
                          case rel => exact ⟨n + 1, by omega, by omega, by go_num, Lib.hid S.out.fix.tail.tail.tail⟩
                          case measure => first | (simp [intOf]; done) | (simp [intOf]; omega)
                        · have HOO := Lib.hid (HNV.out.2.2 (by omega))
                          have HWI := Lib.hid (show inR n dl dh = false from inR_not.2 (by omega))
                          clear hin
                          refine (ends_no _ (addP t ⟨x, y, n, n⟩) _ ⟨_, _, rfl, S.out.row 1 rfl, S.out.row 2 rfl⟩ HOO.out).mono ?_
                          rintro e w6 ⟨rfl, hb⟩
                          have S := Lib.hid (S.out.call hb)
                          clear hb
                          have q_d0 := S.out.get 3 0 rfl rfl
                          have q_d1 := S.out.get 3 1 rfl rfl
                          go_wp2_with fail
                          refine (rWithin_any _ _ _ _).mono ?_
                          rintro e w' ⟨rfl, rfl⟩
                          rw [HWI.out]
                          go_wp2_with fail
                          go_roundw
                          case rel => exact ⟨n + 1, by omega, by omega, by go_num, Lib.hid S.out.fix.tail.tail.tail⟩
                          case measure => first | (simp [intOf]; done) | (simp [intOf]; omega)
                      · go_wp2_with fail
                        go_roundw
                        case rel => exact ⟨n + 1, by omega, by omega, by go_num, Lib.hid S.out.fix⟩
                        case measure => first | (simp [intOf]; done) | (simp [intOf]; omega)
              · go_wp2_with fail
                clear q_d0 q_d1 q_town0 q_town1 q_town2 q_ask0 q_ask1
                obtain ⟨sl, sh, hle, ⟨e1, e2, e3⟩, hem⟩ := ends_level HO.out HM7.out Hx.out
                have HLE := Lib.hid hle
                have HEM := Lib.hid hem
                clear hle hem
                refine (level_any _ t x _ ⟨_, _, rfl, HSN.out.below S.out.bel, HSP.out.below S.out.bel⟩).mono ?_
                rintro e w6 ⟨rfl, hb⟩
                rw [HLE.out]
                have S := Lib.hid ((S.out.call hb).alloc [I sl, I sh] 40)
                clear hb
                have q_s0 := S.out.get 0 0 rfl rfl
                have q_s1 := S.out.get 0 1 rfl rfl
                have b1 : ¬ sl < 0 := by omega
                have b2 : ¬ 99 < sh := by omega
                have b3 : ¬ sh < sl := by omega
                go_wp2_with fail
                clear b1 b2 b3
                clear q_s0 q_s1
                go_loopw [14] (fun i wr => ∃ n : Int, sl - 1 ≤ n ∧ n ≤ sh + 2 ∧ i = I n ∧ Hid (St w wr wr.heap.size [.box w6.heap.size [I sl, I sh], .box w5.heap.size [I dl, I dh], .box (w.heap.size + 1) [I x, I y, I z, I u], .box w.heap.size [I t.wells, .slice A1 t.snd.length c1, .slice A2 t.slp.length c2]])) (fun i _ => (sh + 2 - intOf i).toNat)
                case atStart => exact ⟨sl - 1, by omega, by omega, by go_num, Lib.hid S.out.fix⟩
                case round =>
                  clear S
                  obtain ⟨n, hn1, hn2, rfl, S⟩ := hrel
                  have q_s0 := S.out.get 0 0 rfl rfl
                  have q_s1 := S.out.get 0 1 rfl rfl
                  have q_town0 := S.out.get 3 0 rfl rfl
                  have q_town1 := S.out.get 3 1 rfl rfl
                  have q_town2 := S.out.get 3 2 rfl rfl
                  have q_ask0 := S.out.get 2 0 rfl rfl
                  have q_ask1 := S.out.get 2 1 rfl rfl
                  by_cases hlt : n ≤ sh + 1
                  · by_cases c0 : sl < n
                    · by_cases c1 : n < sh
                      · go_wp2_with fail
                        go_roundw
                        case rel => exact ⟨n + 1, by omega, by omega, by go_num, Lib.hid S.out.fix⟩
                        case measure => first | (simp [intOf]; done) | (simp [intOf]; omega)
                      · by_cases c2 : n < 0
                        · exfalso
                          omega
                        · by_cases c3 : 99 < n
                          · go_wp2_with fail
                            go_roundw
                            case rel => exact ⟨n + 1, by omega, by omega, by go_num, Lib.hid S.out.fix⟩
                            case measure => first | (simp [intOf]; done) | (simp [intOf]; omega)
                          · have HNV := Lib.hid (HEM.out n (by omega) (by omega))
                            have HVO := Lib.hid HNV.out.1
                            go_wp2_with fail
                            clear q_s0 q_s1 q_town0 q_town1 q_town2 q_ask0 q_ask1
                            refine (lSounded_any _ t x n _ ⟨_, _, rfl, HSN.out.below S.out.bel, HSP.out.below S.out.bel⟩ (by omega) (by omega)).mono ?_
                            rintro e w7 ⟨v', rfl, ⟨sv', pv', rfl, ho1, ho2⟩, hb⟩
                            have S := Lib.hid (S.out.take2 hb ho1 ho2 (by decide))
                            clear hb
                            clear ho1 ho2
                            go_wp2_with fail
                            by_cases hin : n = sl ∨ n = sh
                            · have HOO := Lib.hid (HNV.out.2.1 hin)
                              have HWI := Lib.hid (show inR n sl sh = true from inR_iff.2 (by omega))
                              clear hin
                              refine (ends_yes _ (addS t ⟨x, n, n⟩) _ ⟨_, _, rfl, S.out.row 0 rfl, S.out.row 1 rfl⟩ HOO.out HVO.out).mono ?_
                              rintro e w8 ⟨u1, u2, rfl, h1, h2, hb⟩
                              obtain ⟨B2, d2, rfl, -, -, -⟩ := id h1.open_
                              obtain ⟨C2, e2, rfl, -, -, -⟩ := id h2.open_
                              have HF1 := Lib.hid h1
                              have HF2 := Lib.hid h2
                              clear h1 h2
                              have S := Lib.hid (S.out.call hb)
                              clear hb
                              have q_s0 := S.out.get 2 0 rfl rfl
                              have q_s1 := S.out.get 2 1 rfl rfl
                              go_wp2_with fail
                              refine (rWithin_any _ _ _ _).mono ?_
                              rintro e w' ⟨rfl, rfl⟩
                              rw [HWI.out]
                              go_wp2_with fail
                              go_roundw
                              case rel => exact ⟨n + 1, by omega, by omega, by go_num, Lib.hid S.out.fix.tail.tail⟩
                              case measure => first | (simp [intOf]; done) | (simp [intOf]; omega)
                            · have HOO := Lib.hid (HNV.out.2.2 (by omega))
                              have HWI := Lib.hid (show inR n sl sh = false from inR_not.2 (by omega))
                              clear hin
                              refine (ends_no _ (addS t ⟨x, n, n⟩) _ ⟨_, _, rfl, S.out.row 0 rfl, S.out.row 1 rfl⟩ HOO.out).mono ?_
                              rintro e w8 ⟨rfl, hb⟩
                              have S := Lib.hid (S.out.call hb)
                              clear hb
                              have q_s0 := S.out.get 2 0 rfl rfl
                              have q_s1 := S.out.get 2 1 rfl rfl
                              go_wp2_with fail
                              refine (rWithin_any _ _ _ _).mono ?_
                              rintro e w' ⟨rfl, rfl⟩
                              rw [HWI.out]
                              go_wp2_with fail
                              go_roundw
                              case rel => exact ⟨n + 1, by omega, by omega, by go_num, Lib.hid S.out.fix.tail.tail⟩
                              case measure => first | (simp [intOf]; done) | (simp [intOf]; omega)
                    · by_cases c2 : n < 0
                      · go_wp2_with fail
                        go_roundw
                        case rel => exact ⟨n + 1, by omega, by omega, by go_num, Lib.hid S.out.fix⟩
                        case measure => first | (simp [intOf]; done) | (simp [intOf]; omega)
                      · by_cases c3 : 99 < n
                        · exfalso
                          omega
                        · have HNV := Lib.hid (HEM.out n (by omega) (by omega))
                          have HVO := Lib.hid HNV.out.1
                          go_wp2_with fail
                          clear q_s0 q_s1 q_town0 q_town1 q_town2 q_ask0 q_ask1
                          refine (lSounded_any _ t x n _ ⟨_, _, rfl, HSN.out.below S.out.bel, HSP.out.below S.out.bel⟩ (by omega) (by omega)).mono ?_
                          rintro e w7 ⟨v', rfl, ⟨sv', pv', rfl, ho1, ho2⟩, hb⟩
                          have S := Lib.hid (S.out.take2 hb ho1 ho2 (by decide))
                          clear hb
                          clear ho1 ho2
                          go_wp2_with fail
                          by_cases hin : n = sl ∨ n = sh
                          · have HOO := Lib.hid (HNV.out.2.1 hin)
                            have HWI := Lib.hid (show inR n sl sh = true from inR_iff.2 (by omega))
                            clear hin
                            refine (ends_yes _ (addS t ⟨x, n, n⟩) _ ⟨_, _, rfl, S.out.row 0 rfl, S.out.row 1 rfl⟩ HOO.out HVO.out).mono ?_
                            rintro e w8 ⟨u1, u2, rfl, h1, h2, hb⟩
                            obtain ⟨B2, d2, rfl, -, -, -⟩ := id h1.open_
                            obtain ⟨C2, e2, rfl, -, -, -⟩ := id h2.open_
                            have HF1 := Lib.hid h1
                            have HF2 := Lib.hid h2
                            clear h1 h2
                            have S := Lib.hid (S.out.call hb)
                            clear hb
                            have q_s0 := S.out.get 2 0 rfl rfl
                            have q_s1 := S.out.get 2 1 rfl rfl
                            go_wp2_with fail
                            refine (rWithin_any _ _ _ _).mono ?_
                            rintro e w' ⟨rfl, rfl⟩
                            rw [HWI.out]
                            go_wp2_with fail
                            go_roundw
                            case rel => exact ⟨n + 1, by omega, by omega, by go_num, Lib.hid S.out.fix.tail.tail⟩
                            case measure => first | (simp [intOf]; done) | (simp [intOf]; omega)
                          · have HOO := Lib.hid (HNV.out.2.2 (by omega))
                            have HWI := Lib.hid (show inR n sl sh = false from inR_not.2 (by omega))
                            clear hin
                            refine (ends_no _ (addS t ⟨x, n, n⟩) _ ⟨_, _, rfl, S.out.row 0 rfl, S.out.row 1 rfl⟩ HOO.out).mono ?_
                            rintro e w8 ⟨rfl, hb⟩
                            have S := Lib.hid (S.out.call hb)
                            clear hb
                            have q_s0 := S.out.get 2 0 rfl rfl
                            have q_s1 := S.out.get 2 1 rfl rfl
                            go_wp2_with fail
                            refine (rWithin_any _ _ _ _).mono ?_
                            rintro e w' ⟨rfl, rfl⟩
                            rw [HWI.out]
                            go_wp2_with fail
                            go_roundw
                            case rel => exact ⟨n + 1, by omega, by omega, by go_num, Lib.hid S.out.fix.tail.tail⟩
                            case measure => first | (simp [intOf]; done) | (simp [intOf]; omega)
                  · go_wp2_with fail
                    clear q_s0 q_s1 q_town0 q_town1 q_town2 q_ask0 q_ask1
                    refine (works_any _).mono ?_
                    rintro e w7 ⟨rfl, hb⟩
                    have S := Lib.hid (S.out.call hb)
                    clear hb
                    go_wp2_with fail
                    go_ret
                    exact ⟨rfl, S.out.bel⟩
          · have D := Lib.hid (differ_three h Hx.out Hy.out)
            clear h
            refine (differ_any _ t x y _ ⟨_, _, rfl, HSN.out.below S.out.bel, HSP.out.below S.out.bel⟩).mono ?_
            rintro e w5 ⟨rfl, hb⟩
            rw [D.out]
            have S := Lib.hid ((S.out.call hb).alloc [I 0, I 0] 40)
            clear hb
            clear q_town0 q_town1 q_town2 q_ask0 q_ask1
            have q_town0 := S.out.get 2 0 rfl rfl
            have q_town1 := S.out.get 2 1 rfl rfl
            have q_town2 := S.out.get 2 2 rfl rfl
            have q_ask0 := S.out.get 1 0 rfl rfl
            have q_ask1 := S.out.get 1 1 rfl rfl
            go_wp2_with fail
            refine (works_any _).mono ?_
            rintro e w6 ⟨rfl, hb⟩
            have S := Lib.hid (S.out.call hb)
            clear hb
            clear q_town0 q_town1 q_town2 q_ask0 q_ask1
            have q_town0 := S.out.get 2 0 rfl rfl
            have q_town1 := S.out.get 2 1 rfl rfl
            have q_town2 := S.out.get 2 2 rfl rfl
            have q_ask0 := S.out.get 1 0 rfl rfl
            have q_ask1 := S.out.get 1 1 rfl rfl
            go_wp2_with fail
            go_ret
            exact ⟨rfl, S.out.bel⟩

end Go.Proofs.Ytplbaijdnpfdgaa
