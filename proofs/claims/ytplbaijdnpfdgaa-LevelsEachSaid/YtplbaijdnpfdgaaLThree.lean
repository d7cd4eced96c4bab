/- Walk of the law LevelsThree. -/
import Derived.Test.YtplbaijdnpfdgaaW22
namespace Go.Proofs.Ytplbaijdnpfdgaa
open Go.RowKit Go.Sort

/-- What is known of Differ, if there is a truth. -/
theorem differ_zero {t : Twn} (h : openE t true = 0) {a b : Int} (ha : isWell t.wells a = true) (hb : isWell t.wells b = true) : differP t a b = (⟨-at_ (closeM (baseM t)) b.toNat a.toNat, at_ (closeM (baseM t)) a.toNat b.toNat⟩, 0) := by
  unfold differP
  rw [ha, hb, Bool.and_true, h, if_pos rfl]
theorem differ_three {t : Twn} (h : openE t true = 3) {a b : Int} (ha : isWell t.wells a = true) (hb : isWell t.wells b = true) : differP t a b = (⟨0, 0⟩, 3) := by
  unfold differP
  rw [ha, hb, Bool.and_true, h, if_neg (by decide)]
theorem openE_cases {t : Twn} (h : valid t = true) : openE t true = 0 ∨ openE t true = 3 := by
  unfold openE
  rw [if_pos h, if_pos rfl]
  split <;> simp
structure Three (al ah bl bh cl ch dl dh ol oh : Int) : Prop where
  b : -99 ≤ al ∧ al ≤ 99 ∧ -99 ≤ ah ∧ ah ≤ 99 ∧ -99 ≤ bl ∧ bl ≤ 99 ∧ -99 ≤ bh ∧ bh ≤ 99
  c : al + bl ≤ cl ∧ cl ≤ ch ∧ ch ≤ ah + bh
  d : dl = -ah ∧ dh = -al
  o : ol = 0 ∧ oh = 0
theorem three_said {t : Twn} (h : openE t true = 0) {x y z : Int} (hx : isWell t.wells x = true) (hy : isWell t.wells y = true) (hz : isWell t.wells z = true) :
    ∃ al ah bl bh cl ch dl dh ol oh, differP t x y = (⟨al, ah⟩, 0) ∧ differP t y z = (⟨bl, bh⟩, 0) ∧ differP t x z = (⟨cl, ch⟩, 0) ∧ differP t y x = (⟨dl, dh⟩, 0) ∧ differP t x x = (⟨ol, oh⟩, 0) ∧ Three al ah bl bh cl ch dl dh ol oh := by
  have ht := open_tight h
  have ax := act_well hx
  have ay := act_well hy
  have az := act_well hz
  refine ⟨_, _, _, _, _, _, _, _, _, _, differ_zero h hx hy, differ_zero h hy hz, differ_zero h hx hz, differ_zero h hy hx, differ_zero h hx hx, ?_⟩
  have f1 := ht.fin _ _ ax ay
  have f2 := ht.fin _ _ ay ax
  have f3 := ht.fin _ _ ay az
  have f4 := ht.fin _ _ az ay
  obtain ⟨u, hu, eu⟩ := ht.one _ _ ax az
  obtain ⟨v, hv, ev⟩ := ht.one _ _ az ax
  obtain ⟨p, hp, ep⟩ := ht.one _ _ ax ax
  have u1 := ht.all u hu _ _ ax ay
  have u2 := ht.all u hu _ _ ay az
  have u3 := ht.all u hu _ _ az ax
  have v1 := ht.all v hv _ _ az ay
  have v2 := ht.all v hv _ _ ay ax
  refine ⟨by omega, by omega, by omega, by omega⟩

set_option maxRecDepth 100000 in
set_option maxHeartbeats 8000000 in
theorem lawThree_any (v : Value) (t : Twn) (x y z u : Int) (w : World) (hv : TwnAt w v t) :
    Calls Try.prog 5 #[v, .agg #[I x, I y, I z, I u]] w fun e w' => e = .returned (.bool true) ∧ Below w.heap.size w w' := by
  obtain ⟨sv, pv, rfl, hs, hp⟩ := hv
  have HSN := Lib.hid hs
  have HSP := Lib.hid hp
  obtain ⟨A1, c1, rfl, -, -, -⟩ := id hs.open_
  obtain ⟨A2, c2, rfl, -, -, -⟩ := id hp.open_
  clear hs hp
  have S := Lib.hid (show St w ((w.alloc (.cells #[I t.wells, .slice A1 t.snd.length c1, .slice A2 t.slp.length c2] 25)).alloc (.cells #[I x, I y, I z, I u] 38)) (w.heap.size + 1 + 1) [.box (w.heap.size + 1) [I x, I y, I z, I u], .box w.heap.size [I t.wells, .slice A1 t.snd.length c1, .slice A2 t.slp.length c2]] from ((St.init w).alloc [I t.wells, .slice A1 t.snd.length c1, .slice A2 t.slp.length c2] 25).alloc [I x, I y, I z, I u] 38)
  cases hr : readyB t
  · have HR := Lib.hid hr
    clear hr
    go_enter Try.func5, Try.ntmps5
    have q_town0 := S.out.get 1 0 rfl rfl
    have q_town1 := S.out.get 1 1 rfl rfl
    have q_town2 := S.out.get 1 2 rfl rfl
    have q_ask0 := S.out.get 0 0 rfl rfl
    have q_ask1 := S.out.get 0 1 rfl rfl
    have q_ask2 := S.out.get 0 2 rfl rfl
    go_wp2_with fail
    refine (ready_any _ t _ ⟨_, _, rfl, HSN.out.below S.out.bel, HSP.out.below S.out.bel⟩).mono ?_
    rintro e w1 ⟨rfl, hb⟩
    rw [HR.out]
    have S := Lib.hid (S.out.call hb)
    clear hb
    clear q_town0 q_town1 q_town2 q_ask0 q_ask1 q_ask2
    have q_town0 := S.out.get 1 0 rfl rfl
    have q_town1 := S.out.get 1 1 rfl rfl
    have q_town2 := S.out.get 1 2 rfl rfl
    have q_ask0 := S.out.get 0 0 rfl rfl
    have q_ask1 := S.out.get 0 1 rfl rfl
    have q_ask2 := S.out.get 0 2 rfl rfl
    go_wp2_with fail
    refine (works_any _).mono ?_
    rintro e w2 ⟨rfl, hb⟩
    have S := Lib.hid (S.out.call hb)
    clear hb
    clear q_town0 q_town1 q_town2 q_ask0 q_ask1 q_ask2
    have q_town0 := S.out.get 1 0 rfl rfl
    have q_town1 := S.out.get 1 1 rfl rfl
    have q_town2 := S.out.get 1 2 rfl rfl
    have q_ask0 := S.out.get 0 0 rfl rfl
    have q_ask1 := S.out.get 0 1 rfl rfl
    have q_ask2 := S.out.get 0 2 rfl rfl
    go_wp2_with fail
    go_ret
    exact ⟨rfl, S.out.bel⟩
  · have HR := Lib.hid hr
    obtain ⟨hv, h5, -, -, -⟩ := readyB_true hr
    have hw0 := (valid_vl hv).w0
    have hw6 : t.wells ≤ 1000 := by omega
    have HV := Lib.hid hv
    clear hv h5 hr
    go_enter Try.func5, Try.ntmps5
    have q_town0 := S.out.get 1 0 rfl rfl
    have q_town1 := S.out.get 1 1 rfl rfl
    have q_town2 := S.out.get 1 2 rfl rfl
    have q_ask0 := S.out.get 0 0 rfl rfl
    have q_ask1 := S.out.get 0 1 rfl rfl
    have q_ask2 := S.out.get 0 2 rfl rfl
    go_wp2_with fail
    refine (ready_any _ t _ ⟨_, _, rfl, HSN.out.below S.out.bel, HSP.out.below S.out.bel⟩).mono ?_
    rintro e w1 ⟨rfl, hb⟩
    rw [HR.out]
    have S := Lib.hid (S.out.call hb)
    clear hb
    clear q_town0 q_town1 q_town2 q_ask0 q_ask1 q_ask2
    have q_town0 := S.out.get 1 0 rfl rfl
    have q_town1 := S.out.get 1 1 rfl rfl
    have q_town2 := S.out.get 1 2 rfl rfl
    have q_ask0 := S.out.get 0 0 rfl rfl
    have q_ask1 := S.out.get 0 1 rfl rfl
    have q_ask2 := S.out.get 0 2 rfl rfl
    go_wp2_with fail
    cases h : isWell t.wells x
    · have Hx := Lib.hid h
      clear h
      refine (rIsWell_any t.wells x _ _ _ hw0 hw6 ⟨_, _, _, rfl⟩ ⟨_, _, _, rfl⟩).mono ?_
      rintro e w2 ⟨rfl, hb⟩
      rw [show isWell t.wells x = false from Hx.out]
      have S := Lib.hid (S.out.call hb)
      clear hb
      clear q_town0 q_town1 q_town2 q_ask0 q_ask1 q_ask2
      have q_town0 := S.out.get 1 0 rfl rfl
      have q_town1 := S.out.get 1 1 rfl rfl
      have q_town2 := S.out.get 1 2 rfl rfl
      have q_ask0 := S.out.get 0 0 rfl rfl
      have q_ask1 := S.out.get 0 1 rfl rfl
      have q_ask2 := S.out.get 0 2 rfl rfl
      go_wp2_with fail
      refine (works_any _).mono ?_
      rintro e w3 ⟨rfl, hb⟩
      have S := Lib.hid (S.out.call hb)
      clear hb
      clear q_town0 q_town1 q_town2 q_ask0 q_ask1 q_ask2
      have q_town0 := S.out.get 1 0 rfl rfl
      have q_town1 := S.out.get 1 1 rfl rfl
      have q_town2 := S.out.get 1 2 rfl rfl
      have q_ask0 := S.out.get 0 0 rfl rfl
      have q_ask1 := S.out.get 0 1 rfl rfl
      have q_ask2 := S.out.get 0 2 rfl rfl
      go_wp2_with fail
      go_ret
      exact ⟨rfl, S.out.bel⟩
    · have Hx := Lib.hid h
      clear h
      refine (rIsWell_any t.wells x _ _ _ hw0 hw6 ⟨_, _, _, rfl⟩ ⟨_, _, _, rfl⟩).mono ?_
      rintro e w2 ⟨rfl, hb⟩
      rw [show isWell t.wells x = true from Hx.out]
      have S := Lib.hid (S.out.call hb)
      clear hb
      clear q_town0 q_town1 q_town2 q_ask0 q_ask1 q_ask2
      have q_town0 := S.out.get 1 0 rfl rfl
      have q_town1 := S.out.get 1 1 rfl rfl
      have q_town2 := S.out.get 1 2 rfl rfl
      have q_ask0 := S.out.get 0 0 rfl rfl
      have q_ask1 := S.out.get 0 1 rfl rfl
      have q_ask2 := S.out.get 0 2 rfl rfl
      go_wp2_with fail
      cases h : isWell t.wells y
      · have Hy := Lib.hid h
        clear h
        refine (rIsWell_any t.wells y _ _ _ hw0 hw6 ⟨_, _, _, rfl⟩ ⟨_, _, _, rfl⟩).mono ?_
        rintro e w3 ⟨rfl, hb⟩
        rw [show isWell t.wells y = false from Hy.out]
        have S := Lib.hid (S.out.call hb)
        clear hb
        clear q_town0 q_town1 q_town2 q_ask0 q_ask1 q_ask2
        have q_town0 := S.out.get 1 0 rfl rfl
        have q_town1 := S.out.get 1 1 rfl rfl
        have q_town2 := S.out.get 1 2 rfl rfl
        have q_ask0 := S.out.get 0 0 rfl rfl
        have q_ask1 := S.out.get 0 1 rfl rfl
        have q_ask2 := S.out.get 0 2 rfl rfl
        go_wp2_with fail
        refine (works_any _).mono ?_
        rintro e w4 ⟨rfl, hb⟩
        have S := Lib.hid (S.out.call hb)
        clear hb
        clear q_town0 q_town1 q_town2 q_ask0 q_ask1 q_ask2
        have q_town0 := S.out.get 1 0 rfl rfl
        have q_town1 := S.out.get 1 1 rfl rfl
        have q_town2 := S.out.get 1 2 rfl rfl
        have q_ask0 := S.out.get 0 0 rfl rfl
        have q_ask1 := S.out.get 0 1 rfl rfl
        have q_ask2 := S.out.get 0 2 rfl rfl
        go_wp2_with fail
        go_ret
        exact ⟨rfl, S.out.bel⟩
      · have Hy := Lib.hid h
        clear h
        refine (rIsWell_any t.wells y _ _ _ hw0 hw6 ⟨_, _, _, rfl⟩ ⟨_, _, _, rfl⟩).mono ?_
        rintro e w3 ⟨rfl, hb⟩
        rw [show isWell t.wells y = true from Hy.out]
        have S := Lib.hid (S.out.call hb)
        clear hb
        clear q_town0 q_town1 q_town2 q_ask0 q_ask1 q_ask2
        have q_town0 := S.out.get 1 0 rfl rfl
        have q_town1 := S.out.get 1 1 rfl rfl
        have q_town2 := S.out.get 1 2 rfl rfl
        have q_ask0 := S.out.get 0 0 rfl rfl
        have q_ask1 := S.out.get 0 1 rfl rfl
        have q_ask2 := S.out.get 0 2 rfl rfl
        go_wp2_with fail
        cases h : isWell t.wells z
        · have Hz := Lib.hid h
          clear h
          refine (rIsWell_any t.wells z _ _ _ hw0 hw6 ⟨_, _, _, rfl⟩ ⟨_, _, _, rfl⟩).mono ?_
          rintro e w4 ⟨rfl, hb⟩
          rw [show isWell t.wells z = false from Hz.out]
          have S := Lib.hid (S.out.call hb)
          clear hb
          clear q_town0 q_town1 q_town2 q_ask0 q_ask1 q_ask2
          have q_town0 := S.out.get 1 0 rfl rfl
          have q_town1 := S.out.get 1 1 rfl rfl
          have q_town2 := S.out.get 1 2 rfl rfl
          have q_ask0 := S.out.get 0 0 rfl rfl
          have q_ask1 := S.out.get 0 1 rfl rfl
          have q_ask2 := S.out.get 0 2 rfl rfl
          go_wp2_with fail
          refine (works_any _).mono ?_
          rintro e w5 ⟨rfl, hb⟩
          have S := Lib.hid (S.out.call hb)
          clear hb
          clear q_town0 q_town1 q_town2 q_ask0 q_ask1 q_ask2
          have q_town0 := S.out.get 1 0 rfl rfl
          have q_town1 := S.out.get 1 1 rfl rfl
          have q_town2 := S.out.get 1 2 rfl rfl
          have q_ask0 := S.out.get 0 0 rfl rfl
          have q_ask1 := S.out.get 0 1 rfl rfl
          have q_ask2 := S.out.get 0 2 rfl rfl
          go_wp2_with fail
          go_ret
          exact ⟨rfl, S.out.bel⟩
        · have Hz := Lib.hid h
          clear h
          refine (rIsWell_any t.wells z _ _ _ hw0 hw6 ⟨_, _, _, rfl⟩ ⟨_, _, _, rfl⟩).mono ?_
          rintro e w4 ⟨rfl, hb⟩
          rw [show isWell t.wells z = true from Hz.out]
          have S := Lib.hid (S.out.call hb)
          clear hb
          clear q_town0 q_town1 q_town2 q_ask0 q_ask1 q_ask2
          have q_town0 := S.out.get 1 0 rfl rfl
          have q_town1 := S.out.get 1 1 rfl rfl
          have q_town2 := S.out.get 1 2 rfl rfl
          have q_ask0 := S.out.get 0 0 rfl rfl
          have q_ask1 := S.out.get 0 1 rfl rfl
          have q_ask2 := S.out.get 0 2 rfl rfl
          go_wp2_with fail
          rcases openE_cases HV.out with h | h
          · obtain ⟨al, ah, bl, bh, cl, ch, dl, dh, ol, oh, da, db, dc, dd, de, hT⟩ := three_said h Hx.out Hy.out Hz.out
            have Da := Lib.hid da
            have Db := Lib.hid db
            have Dc := Lib.hid dc
            have Dd := Lib.hid dd
            have Do := Lib.hid de
            obtain ⟨rfl, rfl⟩ := hT.d
            obtain ⟨rfl, rfl⟩ := hT.o
            have HT := Lib.hid hT
            clear da db dc dd de h hT
            refine (differ_any _ t x y _ ⟨_, _, rfl, HSN.out.below S.out.bel, HSP.out.below S.out.bel⟩).mono ?_
            rintro e w5 ⟨rfl, hb⟩
            rw [Da.out]
            have S := Lib.hid ((S.out.call hb).alloc [I al, I ah] 40)
            clear hb
            clear q_town0 q_town1 q_town2 q_ask0 q_ask1 q_ask2
            have q_town0 := S.out.get 2 0 rfl rfl
            have q_town1 := S.out.get 2 1 rfl rfl
            have q_town2 := S.out.get 2 2 rfl rfl
            have q_ask0 := S.out.get 1 0 rfl rfl
            have q_ask1 := S.out.get 1 1 rfl rfl
            have q_ask2 := S.out.get 1 2 rfl rfl
            go_wp2_with fail
            refine (differ_any _ t y z _ ⟨_, _, rfl, HSN.out.below S.out.bel, HSP.out.below S.out.bel⟩).mono ?_
            rintro e w6 ⟨rfl, hb⟩
            rw [Db.out]
            have S := Lib.hid ((S.out.call hb).alloc [I bl, I bh] 40)
            clear hb
            clear q_town0 q_town1 q_town2 q_ask0 q_ask1 q_ask2
            have q_town0 := S.out.get 3 0 rfl rfl
            have q_town1 := S.out.get 3 1 rfl rfl
            have q_town2 := S.out.get 3 2 rfl rfl
            have q_ask0 := S.out.get 2 0 rfl rfl
            have q_ask1 := S.out.get 2 1 rfl rfl
            have q_ask2 := S.out.get 2 2 rfl rfl
            go_wp2_with fail
            refine (differ_any _ t x z _ ⟨_, _, rfl, HSN.out.below S.out.bel, HSP.out.below S.out.bel⟩).mono ?_
            rintro e w7 ⟨rfl, hb⟩
            rw [Dc.out]
            have S := Lib.hid ((S.out.call hb).alloc [I cl, I ch] 40)
            clear hb
            clear q_town0 q_town1 q_town2 q_ask0 q_ask1 q_ask2
            have q_town0 := S.out.get 4 0 rfl rfl
            have q_town1 := S.out.get 4 1 rfl rfl
            have q_town2 := S.out.get 4 2 rfl rfl
            have q_ask0 := S.out.get 3 0 rfl rfl
            have q_ask1 := S.out.get 3 1 rfl rfl
            have q_ask2 := S.out.get 3 2 rfl rfl
            go_wp2_with fail
            refine (differ_any _ t y x _ ⟨_, _, rfl, HSN.out.below S.out.bel, HSP.out.below S.out.bel⟩).mono ?_
            rintro e w8 ⟨rfl, hb⟩
            rw [Dd.out]
            have S := Lib.hid ((S.out.call hb).alloc [I (-ah), I (-al)] 40)
            clear hb
            clear q_town0 q_town1 q_town2 q_ask0 q_ask1 q_ask2
            have q_town0 := S.out.get 5 0 rfl rfl
            have q_town1 := S.out.get 5 1 rfl rfl
            have q_town2 := S.out.get 5 2 rfl rfl
            have q_ask0 := S.out.get 4 0 rfl rfl
            have q_ask1 := S.out.get 4 1 rfl rfl
            have q_ask2 := S.out.get 4 2 rfl rfl
            go_wp2_with fail
            refine (differ_any _ t x x _ ⟨_, _, rfl, HSN.out.below S.out.bel, HSP.out.below S.out.bel⟩).mono ?_
            rintro e w9 ⟨rfl, hb⟩
            rw [Do.out]
            have S := Lib.hid ((S.out.call hb).alloc [I 0, I 0] 40)
            clear hb
            clear q_town0 q_town1 q_town2 q_ask0 q_ask1 q_ask2
            have q_town0 := S.out.get 6 0 rfl rfl
            have q_town1 := S.out.get 6 1 rfl rfl
            have q_town2 := S.out.get 6 2 rfl rfl
            have q_ask0 := S.out.get 5 0 rfl rfl
            have q_ask1 := S.out.get 5 1 rfl rfl
            have q_ask2 := S.out.get 5 2 rfl rfl
            obtain ⟨b1, b2, b3, b4, b5, b6, b7, b8⟩ := HT.out.b
            have m1 : ¬ min al bl < -99 := by omega
            have m2 : ¬ 99 < max ah bh := by omega
            have HI := Lib.hid (show insideS ⟨cl, ch⟩ ⟨al + bl, ah + bh⟩ = true by have := HT.out.c; simp [insideS]; omega)
            have e1 := span_eql ⟨-ah, -al⟩ ⟨-ah, -al⟩
            have e2 := span_eql ⟨0, 0⟩ ⟨0, 0⟩
            clear q_town0 q_town1 q_town2 q_ask0 q_ask1 q_ask2
            have q_town0 := S.out.get 6 0 rfl rfl
            have q_town1 := S.out.get 6 1 rfl rfl
            have q_town2 := S.out.get 6 2 rfl rfl
            have q_ask0 := S.out.get 5 0 rfl rfl
            have q_ask1 := S.out.get 5 1 rfl rfl
            have q_ask2 := S.out.get 5 2 rfl rfl
            have q_a0 := S.out.get 4 0 rfl rfl
            have q_a1 := S.out.get 4 1 rfl rfl
            have q_b0 := S.out.get 3 0 rfl rfl
            have q_b1 := S.out.get 3 1 rfl rfl
            have q_c0 := S.out.get 2 0 rfl rfl
            have q_c1 := S.out.get 2 1 rfl rfl
            have q_d0 := S.out.get 1 0 rfl rfl
            have q_d1 := S.out.get 1 1 rfl rfl
            have q_o0 := S.out.get 0 0 rfl rfl
            have q_o1 := S.out.get 0 1 rfl rfl
            go_wp2_with fail
            all_goals
              refine (inside_any ⟨cl, ch⟩ ⟨al + bl, ah + bh⟩ _).mono ?_
              rintro e w10 ⟨rfl, hb⟩
              rw [HI.out]
              have S := Lib.hid (S.out.call hb)
              clear hb
              clear q_town0 q_town1 q_town2 q_ask0 q_ask1 q_ask2 q_a0 q_a1 q_b0 q_b1 q_c0 q_c1 q_d0 q_d1 q_o0 q_o1
              have q_town0 := S.out.get 6 0 rfl rfl
              have q_town1 := S.out.get 6 1 rfl rfl
              have q_town2 := S.out.get 6 2 rfl rfl
              have q_ask0 := S.out.get 5 0 rfl rfl
              have q_ask1 := S.out.get 5 1 rfl rfl
              have q_ask2 := S.out.get 5 2 rfl rfl
              have q_a0 := S.out.get 4 0 rfl rfl
              have q_a1 := S.out.get 4 1 rfl rfl
              have q_b0 := S.out.get 3 0 rfl rfl
              have q_b1 := S.out.get 3 1 rfl rfl
              have q_c0 := S.out.get 2 0 rfl rfl
              have q_c1 := S.out.get 2 1 rfl rfl
              have q_d0 := S.out.get 1 0 rfl rfl
              have q_d1 := S.out.get 1 1 rfl rfl
              have q_o0 := S.out.get 0 0 rfl rfl
              have q_o1 := S.out.get 0 1 rfl rfl
              go_wp2_with fail
              refine (works_any _).mono ?_
              rintro e w11 ⟨rfl, hb⟩
              have S := Lib.hid (S.out.call hb)
              clear hb
              clear q_town0 q_town1 q_town2 q_ask0 q_ask1 q_ask2 q_a0 q_a1 q_b0 q_b1 q_c0 q_c1 q_d0 q_d1 q_o0 q_o1
              have q_town0 := S.out.get 6 0 rfl rfl
              have q_town1 := S.out.get 6 1 rfl rfl
              have q_town2 := S.out.get 6 2 rfl rfl
              have q_ask0 := S.out.get 5 0 rfl rfl
              have q_ask1 := S.out.get 5 1 rfl rfl
              have q_ask2 := S.out.get 5 2 rfl rfl
              have q_a0 := S.out.get 4 0 rfl rfl
              have q_a1 := S.out.get 4 1 rfl rfl
              have q_b0 := S.out.get 3 0 rfl rfl
              have q_b1 := S.out.get 3 1 rfl rfl
              have q_c0 := S.out.get 2 0 rfl rfl
              have q_c1 := S.out.get 2 1 rfl rfl
              have q_d0 := S.out.get 1 0 rfl rfl
              have q_d1 := S.out.get 1 1 rfl rfl
              have q_o0 := S.out.get 0 0 rfl rfl
              have q_o1 := S.out.get 0 1 rfl rfl
              go_wp2_with fail
              go_ret
              exact ⟨rfl, S.out.bel⟩
          · have Da := Lib.hid (differ_three h Hx.out Hy.out)
            have Db := Lib.hid (differ_three h Hy.out Hz.out)
            have Dc := Lib.hid (differ_three h Hx.out Hz.out)
            have Dd := Lib.hid (differ_three h Hy.out Hx.out)
            have Do := Lib.hid (differ_three h Hx.out Hx.out)
            clear h
            refine (differ_any _ t x y _ ⟨_, _, rfl, HSN.out.below S.out.bel, HSP.out.below S.out.bel⟩).mono ?_
            rintro e w5 ⟨rfl, hb⟩
            rw [Da.out]
            have S := Lib.hid ((S.out.call hb).alloc [I 0, I 0] 40)
            clear hb
            clear q_town0 q_town1 q_town2 q_ask0 q_ask1 q_ask2
            have q_town0 := S.out.get 2 0 rfl rfl
            have q_town1 := S.out.get 2 1 rfl rfl
            have q_town2 := S.out.get 2 2 rfl rfl
            have q_ask0 := S.out.get 1 0 rfl rfl
            have q_ask1 := S.out.get 1 1 rfl rfl
            have q_ask2 := S.out.get 1 2 rfl rfl
            go_wp2_with fail
            refine (differ_any _ t y z _ ⟨_, _, rfl, HSN.out.below S.out.bel, HSP.out.below S.out.bel⟩).mono ?_
            rintro e w6 ⟨rfl, hb⟩
            rw [Db.out]
            have S := Lib.hid ((S.out.call hb).alloc [I 0, I 0] 40)
            clear hb
            clear q_town0 q_town1 q_town2 q_ask0 q_ask1 q_ask2
            have q_town0 := S.out.get 3 0 rfl rfl
            have q_town1 := S.out.get 3 1 rfl rfl
            have q_town2 := S.out.get 3 2 rfl rfl
            have q_ask0 := S.out.get 2 0 rfl rfl
            have q_ask1 := S.out.get 2 1 rfl rfl
            have q_ask2 := S.out.get 2 2 rfl rfl
            go_wp2_with fail
            refine (differ_any _ t x z _ ⟨_, _, rfl, HSN.out.below S.out.bel, HSP.out.below S.out.bel⟩).mono ?_
            rintro e w7 ⟨rfl, hb⟩
            rw [Dc.out]
            have S := Lib.hid ((S.out.call hb).alloc [I 0, I 0] 40)
            clear hb
            clear q_town0 q_town1 q_town2 q_ask0 q_ask1 q_ask2
            have q_town0 := S.out.get 4 0 rfl rfl
            have q_town1 := S.out.get 4 1 rfl rfl
            have q_town2 := S.out.get 4 2 rfl rfl
            have q_ask0 := S.out.get 3 0 rfl rfl
            have q_ask1 := S.out.get 3 1 rfl rfl
            have q_ask2 := S.out.get 3 2 rfl rfl
            go_wp2_with fail
            refine (differ_any _ t y x _ ⟨_, _, rfl, HSN.out.below S.out.bel, HSP.out.below S.out.bel⟩).mono ?_
            rintro e w8 ⟨rfl, hb⟩
            rw [Dd.out]
            have S := Lib.hid ((S.out.call hb).alloc [I 0, I 0] 40)
            clear hb
            clear q_town0 q_town1 q_town2 q_ask0 q_ask1 q_ask2
            have q_town0 := S.out.get 5 0 rfl rfl
            have q_town1 := S.out.get 5 1 rfl rfl
            have q_town2 := S.out.get 5 2 rfl rfl
            have q_ask0 := S.out.get 4 0 rfl rfl
            have q_ask1 := S.out.get 4 1 rfl rfl
            have q_ask2 := S.out.get 4 2 rfl rfl
            go_wp2_with fail
            refine (differ_any _ t x x _ ⟨_, _, rfl, HSN.out.below S.out.bel, HSP.out.below S.out.bel⟩).mono ?_
            rintro e w9 ⟨rfl, hb⟩
            rw [Do.out]
            have S := Lib.hid ((S.out.call hb).alloc [I 0, I 0] 40)
            clear hb
            clear q_town0 q_town1 q_town2 q_ask0 q_ask1 q_ask2
            have q_town0 := S.out.get 6 0 rfl rfl
            have q_town1 := S.out.get 6 1 rfl rfl
            have q_town2 := S.out.get 6 2 rfl rfl
            have q_ask0 := S.out.get 5 0 rfl rfl
            have q_ask1 := S.out.get 5 1 rfl rfl
            have q_ask2 := S.out.get 5 2 rfl rfl
            go_wp2_with fail
            refine (works_any _).mono ?_
            rintro e w10 ⟨rfl, hb⟩
            have S := Lib.hid (S.out.call hb)
            clear hb
            clear q_town0 q_town1 q_town2 q_ask0 q_ask1 q_ask2
            have q_town0 := S.out.get 6 0 rfl rfl
            have q_town1 := S.out.get 6 1 rfl rfl
            have q_town2 := S.out.get 6 2 rfl rfl
            have q_ask0 := S.out.get 5 0 rfl rfl
            have q_ask1 := S.out.get 5 1 rfl rfl
            have q_ask2 := S.out.get 5 2 rfl rfl
            go_wp2_with fail
            go_ret
            exact ⟨rfl, S.out.bel⟩

end Go.Proofs.Ytplbaijdnpfdgaa
