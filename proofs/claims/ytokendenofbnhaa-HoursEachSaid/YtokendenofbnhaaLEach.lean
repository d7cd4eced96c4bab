/- HoursEach: the law walked. -/
import Derived.Test.YtokendenofbnhaaW22
import Derived.Test.YtokendenofbnhaaW25
import Derived.Test.YtokendenofbnhaaW29
import Derived.Test.YtokendenofbnhaaPlainB
namespace Go.Proofs.Ytokendenofbnhaa
open Go.RowKit Go.Sort

theorem lack_of {r : Ros} (h : ROk r) {a : (Int × Int) × Int} (ha : lackR r a) : LackIs r a := by
  unfold lackR at ha
  rwa [if_pos (valid_iff.2 h)] at ha
theorem moved_to (ss : List Str) (l : List Int) (hl : l.length = ss.length) : ∀ k, k ≤ ss.length → ((movedTo ss l k).length : Int) = sumW onceI (ss.take k) (l.take k)
  | 0, _ => by simp [movedTo, sumW]
  | k + 1, h => by
    have ih := moved_to ss l hl k (by omega)
    have h1 : k < ss.length := by omega
    have h2 : k < l.length := by omega
    rw [sumW_snoc onceI ss l k h1 h2, movedTo_succ, show l.getD k 0 = l[k] by simp [List.getD_eq_getElem?_getD, List.getElem?_eq_getElem h2], show ss.getD k default = ss[k] by simp [List.getD_eq_getElem?_getD, List.getElem?_eq_getElem h1]]
    have hm := moveI_nonneg ss[k] l[k]
    have e : onceI ss[k] l[k] = min 1 (moveI ss[k] l[k]) := rfl
    rw [e]
    by_cases hp : 0 < moveI ss[k] l[k]
    · rw [if_pos hp, List.length_append]
      simp only [List.length_cons, List.length_nil]
      omega
    · rw [if_neg hp]
      omega
theorem moved_len (ss : List Str) (l : List Int) (hl : l.length = ss.length) : ((movedL ss l).length : Int) = movedN ss l := by
  have := moved_to ss l hl ss.length (by omega)
  rw [List.take_length, show l.take ss.length = l by rw [← hl, List.take_length]] at this
  unfold movedL movedN
  rw [hl]
  exact this

set_option maxRecDepth 20000 in
set_option maxHeartbeats 4000000 in
theorem lawEach_any (v : Value) (r : Ros) (v2 : Value) (l : List Int) (w : World) (hv : RosAt w v r) (hl : Ints w v2 l) :
    Calls Try.prog 14 #[v, v2] w fun e w' => e = .returned (.bool true) ∧ Below w.heap.size w w' := by
  obtain ⟨rv, sv, rfl, hr, hs⟩ := hv
  obtain ⟨A1, c1, rfl, hr1, hr2, -⟩ := hr.open_
  obtain ⟨A2, c2, rfl, hs1, hs2, -⟩ := hs.open_
  have HR := Lib.hid hr
  have HS := Lib.hid hs
  clear hr hs
  have S := Lib.hid (show St w (w.alloc (.cells #[.slice A1 r.room.length c1, .slice A2 r.strs.length c2] 25)) (w.heap.size + 1) [.box w.heap.size [.slice A1 r.room.length c1, .slice A2 r.strs.length c2]] from (St.init w).alloc [.slice A1 r.room.length c1, .slice A2 r.strs.length c2] 25)
  obtain ⟨Al, cl, rfl, hl1, hl2, -⟩ := id hl.open_
  have HL2 := Lib.hid hl
  clear hl
  have q0 := S.out.get 0 0 rfl rfl
  have q1 := S.out.get 0 1 rfl rfl
  go_enter Try.func14, Try.ntmps14
  go_wp2_with fail
  clear q0 q1
  refine (ready_any _ r _ ⟨_, _, rfl, HR.out.below S.out.bel, HS.out.below S.out.bel⟩).mono ?_
  rintro e w1 ⟨⟨bb, rfl, hok⟩, hb⟩
  have S := Lib.hid (S.out.call hb)
  clear hb
  cases bb
  · clear hok
    go_wp2_with fail
    refine (works_any _).mono ?_
    rintro e w2 ⟨rfl, hb⟩
    have S := Lib.hid (S.out.call hb)
    clear hb
    go_wp2_with fail
    go_ret
    exact ⟨rfl, S.out.bel⟩
  · have hvd := hok rfl
    have HVD := Lib.hid hvd
    clear hok hvd
    have q0 := S.out.get 0 0 rfl rfl
    have q1 := S.out.get 0 1 rfl rfl
    by_cases hl40 : 40 < l.length
    · have hl40' : (40 : Int) < (l.length : Int) := by omega
      clear q0 q1
      go_wp2_with fail
      refine (works_any _).mono ?_
      rintro e w2 ⟨rfl, hb⟩
      have S := Lib.hid (S.out.call hb)
      clear hb
      go_wp2_with fail
      go_ret
      exact ⟨rfl, S.out.bel⟩
    · have hl40' : ¬ (40 : Int) < (l.length : Int) := by omega
      have hlen : l.length ≤ 1000 := by omega
      go_wp2_with fail
      clear q0 q1
      cases hs : someR r
      · obtain ⟨hro, hfa⟩ := none_said HVD.out hs
        have HRO := Lib.hid hro
        have HFA := Lib.hid hfa
        have HHA := Lib.hid (hall HVD.out)
        have HS0 := Lib.hid hs
        clear hro hfa
        refine (three_any _ r _ ⟨_, _, rfl, HR.out.below S.out.bel, HS.out.below S.out.bel⟩ HVD.out).mono ?_
        rintro e w5 ⟨rfl, hb⟩
        rw [if_neg (by rw [hs]; simp)]
        clear hs
        have S := Lib.hid (S.out.call hb)
        clear hb
        have q0 := S.out.get 0 0 rfl rfl
        have q1 := S.out.get 0 1 rfl rfl
        go_wp2_with fail
        clear q0 q1
        refine (pRoster_any _ r _ ⟨_, _, rfl, HR.out.below S.out.bel, HS.out.below S.out.bel⟩).mono ?_
        rintro e w6 ⟨vk, rfl, hown, hb⟩
        rw [HRO.out] at hown ⊢
        obtain ⟨Ak, ck, rfl⟩ := own_shape hown
        have S := Lib.hid (S.out.call hb)
        clear hb
        clear hown
        have q0 := S.out.get 0 0 rfl rfl
        have q1 := S.out.get 0 1 rfl rfl
        go_wp2_with fail
        clear q0 q1
        refine (fair_any _ r _ ⟨_, _, rfl, HR.out.below S.out.bel, HS.out.below S.out.bel⟩).mono ?_
        rintro e w7 ⟨vf, rfl, hown, hb⟩
        rw [HFA.out] at hown ⊢
        obtain ⟨Af, cf, rfl⟩ := own_shape hown
        have S := Lib.hid (S.out.call hb)
        clear hb
        clear hown
        have q0 := S.out.get 0 0 rfl rfl
        have q1 := S.out.get 0 1 rfl rfl
        go_wp2_with fail
        clear q0 q1
        refine (lack_any _ r _ ⟨_, _, rfl, HR.out.below S.out.bel, HS.out.below S.out.bel⟩).mono ?_
        rintro e w8 ⟨⟨res, hres, rfl⟩, hb⟩
        have hli := lack_of HVD.out hres
        have S := Lib.hid (S.out.call hb)
        clear hb
        clear hres
        rcases hli with ⟨lo, hi, h1, h2, rfl, h3, -, -⟩ | ⟨-, h5⟩
        · have HL := Lib.hid h3
          have hli1 : (lo : Int) ≤ (hi : Int) := by omega
          have hli2 : (hi : Int) < (r.room.length : Int) := by omega
          have hli3 : (0 : Int) ≤ (lo : Int) := by omega
          have HIN := Lib.hid (show inR (lo : Int) 0 (hi : Int) = true from inR_iff.2 ⟨hli3, hli1⟩)
          clear h3
          have S := Lib.hid (S.out.alloc [I (lo : Int), I (hi : Int)] 61)
          have x0 := S.out.get 0 0 rfl rfl
          have x1 := S.out.get 0 1 rfl rfl
          have q0 := S.out.get 1 0 rfl rfl
          have q1 := S.out.get 1 1 rfl rfl
          go_wp2_with fail
          refine (rWithin1_any _ _ _ _).mono ?_
          rintro e w9 ⟨rfl, rfl⟩
          rw [HIN.out]
          go_wp2_with fail
          clear x0 x1 q0 q1
          refine (rLacks_any _ r lo hi _ ⟨_, _, rfl, HR.out.below S.out.bel, HS.out.below S.out.bel⟩ HVD.out h1 h2).mono ?_
          rintro e w10 ⟨rfl, hb⟩
          rw [HL.out]
          have S := Lib.hid (S.out.call hb)
          clear hb
          have q0 := S.out.get 1 0 rfl rfl
          have q1 := S.out.get 1 1 rfl rfl
          have HNN := Lib.hid (show newB r l = false by
            cases hn : newB r l
            · rfl
            · have := some_of HVD.out hn; rw [HS0.out] at this; cases this)
          go_wp2_with fail
          clear q0 q1
          refine (isNew_any _ _ r l _ ⟨_, _, rfl, HR.out.below S.out.bel, HS.out.below S.out.bel⟩ HVD.out (HL2.out.below S.out.bel) hlen).mono ?_
          rintro e w11 ⟨rfl, hb⟩
          rw [HNN.out]
          have S := Lib.hid (S.out.call hb)
          clear hb
          go_wp2_with fail
          refine (works_any _).mono ?_
          rintro e w12 ⟨rfl, hb⟩
          have S := Lib.hid (S.out.call hb)
          clear hb
          go_wp2_with fail
          go_ret
          exact ⟨rfl, S.out.bel⟩
        · exfalso
          have := HHA.out.2 fun lo hi a b => h5 hi b lo a
          rw [HS0.out] at this
          cases this
      · obtain ⟨k, hro, hnk, hck⟩ := roster_said HVD.out hs
        obtain ⟨m, hfa, hnm, hcm, hnear⟩ := fair_said HVD.out hs
        have hkl : k.length ≤ 1000 := by rw [goodL_length _ _ _ hnk]; have := HVD.out.sl; omega
        have hml : m.length ≤ 1000 := by rw [goodL_length _ _ _ hnm]; have := HVD.out.sl; omega
        have HRO := Lib.hid hro
        have HFA := Lib.hid hfa
        have HNk := Lib.hid hnk
        have HNm := Lib.hid hnm
        have HHA := Lib.hid ((hall HVD.out).1 hs)
        have hfr := (far_real HVD.out hs).2
        have hfm : farOf r.strs m = (farN r : Int) := by
          have hlm := goodL_length _ _ _ hnm
          have a := (farOf_iff (n := (farN r : Int)) (by omega) hlm).2 hnear
          have b := (farTo_bd HVD.out.strs (InL.of_new hnm) m.length (by omega)).1
          obtain ⟨x, hx⟩ := Int.eq_ofNat_of_zero_le (show 0 ≤ farOf r.strs m from b)
          have c := hfr m x hnm ((farOf_iff (by omega) hlm).1 (by omega))
          omega
        have hfl : ∀ l, newB r l = true → (farN r : Int) ≤ farOf r.strs l := fun l hl => by
          have hlm := goodL_length _ _ _ hl
          have b := (farTo_bd HVD.out.strs (InL.of_new hl) l.length (by omega)).1
          obtain ⟨x, hx⟩ := Int.eq_ofNat_of_zero_le (show 0 ≤ farOf r.strs l from b)
          have c := hfr l x hl ((farOf_iff (by omega) hlm).1 (by omega))
          omega
        have HFL := Lib.hid hfl
        have HFM := Lib.hid hfm
        have HMI := Lib.hid (least_real HVD.out hs).2.2
        have HFE := Lib.hid (fewest_real HVD.out hs).2
        obtain ⟨cm, hcme⟩ : ∃ x, costL r.strs m = x := ⟨_, rfl⟩
        rw [hcme] at hcm
        refine (three_any _ r _ ⟨_, _, rfl, HR.out.below S.out.bel, HS.out.below S.out.bel⟩ HVD.out).mono ?_
        rintro e w5 ⟨rfl, hb⟩
        rw [if_pos hs]
        obtain ⟨le, hle⟩ : ∃ x, (bestR stepsI r).1 = x := ⟨_, rfl⟩
        obtain ⟨fe, hfe⟩ : ∃ x, (bestR onceI r).1 = x := ⟨_, rfl⟩
        obtain ⟨fa, hfa2⟩ : ∃ x, (farN r : Int) = x := ⟨_, rfl⟩
        rw [hle, hfe, hfa2]
        rw [hle] at hcm hck HMI
        rw [hfe] at HFE
        rw [hfa2] at HFL HFM
        have HCK := Lib.hid hck
        have HCM := Lib.hid hcme
        clear hro hfa hnk hck hnm hcme hnear hs hfr hfm hfl hle hfe hfa2
        have S := Lib.hid (S.out.call hb)
        clear hb
        have q0 := S.out.get 0 0 rfl rfl
        have q1 := S.out.get 0 1 rfl rfl
        go_wp2_with fail
        clear q0 q1
        refine (pRoster_any _ r _ ⟨_, _, rfl, HR.out.below S.out.bel, HS.out.below S.out.bel⟩).mono ?_
        rintro e w6 ⟨vk, rfl, hown, hb⟩
        rw [HRO.out] at hown ⊢
        obtain ⟨Ak, ck, rfl⟩ := own_shape hown
        have S := Lib.hid (S.out.take hb hown)
        clear hown hb
        have q0 := S.out.get 1 0 rfl rfl
        have q1 := S.out.get 1 1 rfl rfl
        go_wp2_with fail
        clear q0 q1
        refine (fair_any _ r _ ⟨_, _, rfl, HR.out.below S.out.bel, HS.out.below S.out.bel⟩).mono ?_
        rintro e w7 ⟨vf, rfl, hown, hb⟩
        rw [HFA.out] at hown ⊢
        obtain ⟨Af, cf, rfl⟩ := own_shape hown
        have S := Lib.hid (S.out.take hb hown)
        clear hown hb
        have q0 := S.out.get 2 0 rfl rfl
        have q1 := S.out.get 2 1 rfl rfl
        go_wp2_with fail
        clear q0 q1
        refine (lack_any _ r _ ⟨_, _, rfl, HR.out.below S.out.bel, HS.out.below S.out.bel⟩).mono ?_
        rintro e w8 ⟨⟨res, hres, rfl⟩, hb⟩
        have hli := lack_of HVD.out hres
        have S := Lib.hid (S.out.call hb)
        clear hb
        clear hres
        rcases hli with ⟨lo, hi, h1, h2, rfl, h3, -, -⟩ | ⟨rfl, -⟩
        · exfalso
          rw [HHA.out lo hi h1 h2] at h3
          cases h3
        · have S := Lib.hid (S.out.alloc [I 0, I 0] 61)
          have q0 := S.out.get 3 0 rfl rfl
          have q1 := S.out.get 3 1 rfl rfl
          go_wp2_with fail
          clear q0 q1
          refine (isNew_any _ _ r k _ ⟨_, _, rfl, HR.out.below S.out.bel, HS.out.below S.out.bel⟩ HVD.out (S.out.ints 2 rfl) hkl).mono ?_
          rintro e w9 ⟨rfl, hb⟩
          rw [HNk.out]
          have S := Lib.hid (S.out.call hb)
          clear hb
          have q0 := S.out.get 3 0 rfl rfl
          have q1 := S.out.get 3 1 rfl rfl
          go_wp2_with fail
          clear q0 q1
          refine (isNew_any _ _ r m _ ⟨_, _, rfl, HR.out.below S.out.bel, HS.out.below S.out.bel⟩ HVD.out (S.out.ints 1 rfl) hml).mono ?_
          rintro e w10 ⟨rfl, hb⟩
          rw [HNm.out]
          have S := Lib.hid (S.out.call hb)
          clear hb
          have q0 := S.out.get 3 0 rfl rfl
          have q1 := S.out.get 3 1 rfl rfl
          go_wp2_with fail
          clear q0 q1
          refine (costOf_any _ _ r k _ ⟨_, _, rfl, HR.out.below S.out.bel, HS.out.below S.out.bel⟩ HVD.out (S.out.ints 2 rfl) (InL.of_new HNk.out)).mono ?_
          rintro e w11 ⟨rfl, hb⟩
          rw [HCK.out]
          have S := Lib.hid (S.out.call hb)
          clear hb
          have q0 := S.out.get 3 0 rfl rfl
          have q1 := S.out.get 3 1 rfl rfl
          go_wp2_with fail
          clear q0 q1
          refine (costOf_any _ _ r m _ ⟨_, _, rfl, HR.out.below S.out.bel, HS.out.below S.out.bel⟩ HVD.out (S.out.ints 1 rfl) (InL.of_new HNm.out)).mono ?_
          rintro e w12 ⟨rfl, hb⟩
          rw [HCM.out]
          have S := Lib.hid (S.out.call hb)
          clear hb
          have q0 := S.out.get 3 0 rfl rfl
          have q1 := S.out.get 3 1 rfl rfl
          go_wp2_with fail
          clear q0 q1
          refine (farOf_any _ _ r m _ ⟨_, _, rfl, HR.out.below S.out.bel, HS.out.below S.out.bel⟩ HVD.out (S.out.ints 1 rfl) (InL.of_new HNm.out)).mono ?_
          rintro e w13 ⟨rfl, hb⟩
          rw [HFM.out]
          have S := Lib.hid (S.out.call hb)
          clear hb
          have q0 := S.out.get 3 0 rfl rfl
          have q1 := S.out.get 3 1 rfl rfl
          go_wp2_with fail
          clear q0 q1
          cases hnl : newB r l
          · have HNl := Lib.hid hnl
            clear hnl
            refine (isNew_any _ _ r l _ ⟨_, _, rfl, HR.out.below S.out.bel, HS.out.below S.out.bel⟩ HVD.out (HL2.out.below S.out.bel) hlen).mono ?_
            rintro e w14 ⟨rfl, hb⟩
            rw [HNl.out]
            have S := Lib.hid (S.out.call hb)
            clear hb
            go_wp2_with fail
            refine (works_any _).mono ?_
            rintro e w15 ⟨rfl, hb⟩
            have S := Lib.hid (S.out.call hb)
            clear hb
            go_wp2_with fail
            go_ret
            exact ⟨rfl, S.out.bel⟩
          · have HNl := Lib.hid hnl
            have hc := HMI.out l hnl
            have hf := HFL.out l hnl
            have hw := HFE.out l hnl
            have hmn := moved_len r.strs l (goodL_length _ _ _ hnl)
            have hml6 : (movedL r.strs l).length ≤ 1000 := by have := (movedN_bd r.strs l).2; have := HVD.out.sl; omega
            rw [← hmn] at hw
            obtain ⟨cl0, hcl0⟩ : ∃ x, costL r.strs l = x := ⟨_, rfl⟩
            obtain ⟨fl0, hfl0⟩ : ∃ x, farOf r.strs l = x := ⟨_, rfl⟩
            rw [hcl0] at hc
            rw [hfl0] at hf
            have HC0 := Lib.hid hcl0
            have HF0 := Lib.hid hfl0
            clear hcl0 hfl0 hnl hmn
            refine (isNew_any _ _ r l _ ⟨_, _, rfl, HR.out.below S.out.bel, HS.out.below S.out.bel⟩ HVD.out (HL2.out.below S.out.bel) hlen).mono ?_
            rintro e w14 ⟨rfl, hb⟩
            rw [HNl.out]
            have S := Lib.hid (S.out.call hb)
            clear hb
            have q0 := S.out.get 3 0 rfl rfl
            have q1 := S.out.get 3 1 rfl rfl
            go_wp2_with fail
            clear q0 q1
            refine (costOf_any _ _ r l _ ⟨_, _, rfl, HR.out.below S.out.bel, HS.out.below S.out.bel⟩ HVD.out (HL2.out.below S.out.bel) (InL.of_new HNl.out)).mono ?_
            rintro e w15 ⟨rfl, hb⟩
            rw [HC0.out]
            have S := Lib.hid (S.out.call hb)
            clear hb
            have q0 := S.out.get 3 0 rfl rfl
            have q1 := S.out.get 3 1 rfl rfl
            go_wp2_with fail
            clear q0 q1
            refine (farOf_any _ _ r l _ ⟨_, _, rfl, HR.out.below S.out.bel, HS.out.below S.out.bel⟩ HVD.out (HL2.out.below S.out.bel) (InL.of_new HNl.out)).mono ?_
            rintro e w16 ⟨rfl, hb⟩
            rw [HF0.out]
            have S := Lib.hid (S.out.call hb)
            clear hb
            have q0 := S.out.get 3 0 rfl rfl
            have q1 := S.out.get 3 1 rfl rfl
            go_wp2_with fail
            clear q0 q1
            refine (movedOf_any _ _ r l _ ⟨_, _, rfl, HR.out.below S.out.bel, HS.out.below S.out.bel⟩ HVD.out (HL2.out.below S.out.bel) (InL.of_new HNl.out)).mono ?_
            rintro e w17 ⟨vm, rfl, hown, hb⟩
            obtain ⟨Am, cm2, rfl⟩ := own_shape hown
            have S := Lib.hid (S.out.call hb)
            clear hb
            clear hown
            go_wp2_with fail
            refine (works_any _).mono ?_
            rintro e w18 ⟨rfl, hb⟩
            have S := Lib.hid (S.out.call hb)
            clear hb
            go_wp2_with fail
            go_ret
            exact ⟨rfl, S.out.bel⟩

end Go.Proofs.Ytokendenofbnhaa
