/- AqueductTimes: the law walked. -/
import Derived.Test.YtbddaemekgflmaaRow
import Derived.Test.YtbddaemekgflmaaW47
import Derived.Test.YtbddaemekgflmaaSegK
namespace Go.Proofs.Ytbddaemekgflmaa
open Go.RowKit Go.Sort

theorem mulP_at (d : DLine) (a : Int) (k : Nat) (hk : k < d.pts.length) (h : k < (mulP d a k).pts.length) : (mulP d a k).pts[k].cost = costAt d k := by
  rw [← costAt_eq h, mulP_cost d a k (by omega), if_neg (by omega)]
theorem OwnAt.oddVal {w : World} {base g cap go n co : Nat} {d : DLine} (h : OwnAt w base g cap (.slice (some ⟨go, 0, none⟩) n co) d) (hn : n = d.odds.length) (k : Nat) (z : Int) (hz : d.odds[k]? = some z) : w.cell? ⟨go, k, none⟩ = some (I z) := by
  subst hn
  have hk := (List.getElem?_eq_some_iff.1 hz).1
  rw [h.odds.cellAt k (by simpa using hk), List.getElem?_map, hz]
  rfl

set_option maxRecDepth 100000 in
set_option maxHeartbeats 8000000 in
theorem lawTimes_any (v : Value) (d : DLine) (f t x y a b : Int) (w : World) (hv : LineAt w v d) :
    Calls Try.prog 7 #[v, .agg #[I f, I t, I x, I y], .agg #[I a, I b]] w fun e w' => e = .returned (.bool true) ∧ Below w.heap.size w w' := by
  have HV := Lib.hid hv
  obtain ⟨pv, ov, rfl, hp, ho⟩ := hv
  obtain ⟨Ao, co0, rfl, -, -, -⟩ := id ho.open_
  obtain ⟨Ap, cp, rfl, -, -, -⟩ := id hp.open_
  have X := ((Box2.new w (.slice Ap d.pts.length cp) (.slice Ao d.odds.length co0) 25).old (.cells #[I f, I t, I x, I y] 27)).old (.cells #[I a, I b] 50)
  have S0 := (Cells.new (w.alloc (.cells #[.slice Ap d.pts.length cp, .slice Ao d.odds.length co0] 25)) [I f, I t, I x, I y] 27).keep ((Below.refl _ _).alloc (Nat.le_refl _) (.cells #[I a, I b] 50))
  have T0 := Cells.new ((w.alloc (.cells #[.slice Ap d.pts.length cp, .slice Ao d.odds.length co0] 25)).alloc (.cells #[I f, I t, I x, I y] 27)) [I a, I b] 50
  have S : Cells (((w.alloc (.cells #[.slice Ap d.pts.length cp, .slice Ao d.odds.length co0] 25)).alloc (.cells #[I f, I t, I x, I y] 27)).alloc (.cells #[I a, I b] 50)) (w.heap.size + 1) [I f, I t, I x, I y] := by simpa using S0
  have T : Cells (((w.alloc (.cells #[.slice Ap d.pts.length cp, .slice Ao d.odds.length co0] 25)).alloc (.cells #[I f, I t, I x, I y] 27)).alloc (.cells #[I a, I b] 50)) (w.heap.size + 2) [I a, I b] := by simpa using T0
  have HB0 := Lib.hid (show Below w.heap.size w (((w.alloc (.cells #[.slice Ap d.pts.length cp, .slice Ao d.odds.length co0] 25)).alloc (.cells #[I f, I t, I x, I y] 27)).alloc (.cells #[I a, I b] 50)) from (((Below.refl _ _).alloc (Nat.le_refl _) _).alloc (by simp) _).alloc (by simp; omega) _)
  clear hp ho S0 T0
  cases h1 : valid d
  · have H1 := Lib.hid h1
    clear h1
    go_enter Try.func7, Try.ntmps7
    go_wp2_with fail
    go_at_call 15
    refine (ready_any _ d _ (HV.out.below HB0.out)).mono ?_
    rintro e w1 ⟨rfl, hb⟩
    rw [H1.out]
    have HB1 := Lib.hid (bto HB0.out hb)
    replace X := X.keep hb
    replace S := S.keep hb
    replace T := T.keep hb
    try clear x0 x1 x2 x3 lX
    try clear s0 s1 s2 t0 t1
    obtain ⟨x0, x1, x2, x3⟩ := id X
    have lX := X.lt
    have s0 := S 0 _ rfl
    have s1 := S 1 _ rfl
    have s2 := S 2 _ rfl
    have t0 := T 0 _ rfl
    have t1 := T 1 _ rfl
    clear hb HB0
    go_wp2_with fail
    go_at_call 18
    refine (works_any _).mono ?_
    rintro e w9 ⟨rfl, hb⟩
    have HBE := Lib.hid (bto HB1.out hb)
    clear hb
    go_wp2_with fail
    go_ret
    exact ⟨rfl, HBE.out⟩
  · have H1 := Lib.hid h1
    have HVD := Lib.hid h1
    obtain ⟨hn7, hnp, -⟩ := valid_spec h1
    have HL1 := Lib.hid (show d.odds.length ≤ 1000 by omega)
    have HL2 := Lib.hid (show d.pts.length ≤ 1000 by omega)
    have HPOS := Lib.hid (show 0 < d.pts.length by omega)
    have HNP := Lib.hid hnp
    clear h1 hnp hn7
    cases h2 : someOf d f t
    · have H2 := Lib.hid h2
      clear h2
      go_enter Try.func7, Try.ntmps7
      go_wp2_with fail
      go_at_call 15
      refine (ready_any _ d _ (HV.out.below HB0.out)).mono ?_
      rintro e w1 ⟨rfl, hb⟩
      rw [H1.out]
      have HB1 := Lib.hid (bto HB0.out hb)
      replace X := X.keep hb
      replace S := S.keep hb
      replace T := T.keep hb
      try clear x0 x1 x2 x3 lX
      try clear s0 s1 s2 t0 t1
      obtain ⟨x0, x1, x2, x3⟩ := id X
      have lX := X.lt
      have s0 := S 0 _ rfl
      have s1 := S 1 _ rfl
      have s2 := S 2 _ rfl
      have t0 := T 0 _ rfl
      have t1 := T 1 _ rfl
      clear hb HB0
      go_wp2_with fail
      go_at_call 16
      refine (rAreSome_any _ d _ _ _ (HV.out.below HB1.out) HL1.out).mono ?_
      rintro e w2 ⟨rfl, hb⟩
      rw [H2.out]
      have HB2 := Lib.hid (bto HB1.out hb)
      replace X := X.keep hb
      replace S := S.keep hb
      replace T := T.keep hb
      try clear x0 x1 x2 x3 lX
      try clear s0 s1 s2 t0 t1
      obtain ⟨x0, x1, x2, x3⟩ := id X
      have lX := X.lt
      have s0 := S 0 _ rfl
      have s1 := S 1 _ rfl
      have s2 := S 2 _ rfl
      have t0 := T 0 _ rfl
      have t1 := T 1 _ rfl
      clear hb HB1
      go_wp2_with fail
      go_at_call 18
      refine (works_any _).mono ?_
      rintro e w9 ⟨rfl, hb⟩
      have HBE := Lib.hid (bto HB2.out hb)
      clear hb
      go_wp2_with fail
      go_ret
      exact ⟨rfl, HBE.out⟩
    · have H2 := Lib.hid h2
      obtain ⟨hf0, hft, htn⟩ := someOf_spec h2
      clear h2
      cases h3 : isPt d x
      · have H3 := Lib.hid h3
        clear h3 hf0 hft htn
        go_enter Try.func7, Try.ntmps7
        go_wp2_with fail
        go_at_call 15
        refine (ready_any _ d _ (HV.out.below HB0.out)).mono ?_
        rintro e w1 ⟨rfl, hb⟩
        rw [H1.out]
        have HB1 := Lib.hid (bto HB0.out hb)
        replace X := X.keep hb
        replace S := S.keep hb
        replace T := T.keep hb
        try clear x0 x1 x2 x3 lX
        try clear s0 s1 s2 t0 t1
        obtain ⟨x0, x1, x2, x3⟩ := id X
        have lX := X.lt
        have s0 := S 0 _ rfl
        have s1 := S 1 _ rfl
        have s2 := S 2 _ rfl
        have t0 := T 0 _ rfl
        have t1 := T 1 _ rfl
        clear hb HB0
        go_wp2_with fail
        go_at_call 16
        refine (rAreSome_any _ d _ _ _ (HV.out.below HB1.out) HL1.out).mono ?_
        rintro e w2 ⟨rfl, hb⟩
        rw [H2.out]
        have HB2 := Lib.hid (bto HB1.out hb)
        replace X := X.keep hb
        replace S := S.keep hb
        replace T := T.keep hb
        try clear x0 x1 x2 x3 lX
        try clear s0 s1 s2 t0 t1
        obtain ⟨x0, x1, x2, x3⟩ := id X
        have lX := X.lt
        have s0 := S 0 _ rfl
        have s1 := S 1 _ rfl
        have s2 := S 2 _ rfl
        have t0 := T 0 _ rfl
        have t1 := T 1 _ rfl
        clear hb HB1
        go_wp2_with fail
        go_at_call 17
        refine (rIsPt_any _ d _ _ (HV.out.below HB2.out) HL2.out).mono ?_
        rintro e w3 ⟨rfl, hb⟩
        rw [H3.out]
        have HB3 := Lib.hid (bto HB2.out hb)
        replace X := X.keep hb
        replace S := S.keep hb
        replace T := T.keep hb
        try clear x0 x1 x2 x3 lX
        try clear s0 s1 s2 t0 t1
        obtain ⟨x0, x1, x2, x3⟩ := id X
        have lX := X.lt
        have s0 := S 0 _ rfl
        have s1 := S 1 _ rfl
        have s2 := S 2 _ rfl
        have t0 := T 0 _ rfl
        have t1 := T 1 _ rfl
        clear hb HB2
        go_wp2_with fail
        go_at_call 18
        refine (works_any _).mono ?_
        rintro e w9 ⟨rfl, hb⟩
        have HBE := Lib.hid (bto HB3.out hb)
        clear hb
        go_wp2_with fail
        go_ret
        exact ⟨rfl, HBE.out⟩
      · have H3 := Lib.hid h3
        obtain ⟨hx0, hx1⟩ := isPt_spec h3
        clear h3
        cases h4 : inR a 1 20
        · have H4 := Lib.hid h4
          clear h4 hf0 hft htn hx0 hx1
          go_enter Try.func7, Try.ntmps7
          go_wp2_with fail
          go_at_call 15
          refine (ready_any _ d _ (HV.out.below HB0.out)).mono ?_
          rintro e w1 ⟨rfl, hb⟩
          rw [H1.out]
          have HB1 := Lib.hid (bto HB0.out hb)
          replace X := X.keep hb
          replace S := S.keep hb
          replace T := T.keep hb
          try clear x0 x1 x2 x3 lX
          try clear s0 s1 s2 t0 t1
          obtain ⟨x0, x1, x2, x3⟩ := id X
          have lX := X.lt
          have s0 := S 0 _ rfl
          have s1 := S 1 _ rfl
          have s2 := S 2 _ rfl
          have t0 := T 0 _ rfl
          have t1 := T 1 _ rfl
          clear hb HB0
          go_wp2_with fail
          go_at_call 16
          refine (rAreSome_any _ d _ _ _ (HV.out.below HB1.out) HL1.out).mono ?_
          rintro e w2 ⟨rfl, hb⟩
          rw [H2.out]
          have HB2 := Lib.hid (bto HB1.out hb)
          replace X := X.keep hb
          replace S := S.keep hb
          replace T := T.keep hb
          try clear x0 x1 x2 x3 lX
          try clear s0 s1 s2 t0 t1
          obtain ⟨x0, x1, x2, x3⟩ := id X
          have lX := X.lt
          have s0 := S 0 _ rfl
          have s1 := S 1 _ rfl
          have s2 := S 2 _ rfl
          have t0 := T 0 _ rfl
          have t1 := T 1 _ rfl
          clear hb HB1
          go_wp2_with fail
          go_at_call 17
          refine (rIsPt_any _ d _ _ (HV.out.below HB2.out) HL2.out).mono ?_
          rintro e w3 ⟨rfl, hb⟩
          rw [H3.out]
          have HB3 := Lib.hid (bto HB2.out hb)
          replace X := X.keep hb
          replace S := S.keep hb
          replace T := T.keep hb
          try clear x0 x1 x2 x3 lX
          try clear s0 s1 s2 t0 t1
          obtain ⟨x0, x1, x2, x3⟩ := id X
          have lX := X.lt
          have s0 := S 0 _ rfl
          have s1 := S 1 _ rfl
          have s2 := S 2 _ rfl
          have t0 := T 0 _ rfl
          have t1 := T 1 _ rfl
          clear hb HB2
          go_wp2_with fail
          go_at_call 23
          refine (rWithin_any _ _ _ _).mono ?_
          rintro e w' ⟨rfl, hww⟩
          obtain rfl := hww.symm
          rw [H4.out]
          go_wp2_with fail
          go_at_call 18
          refine (works_any _).mono ?_
          rintro e w9 ⟨rfl, hb⟩
          have HBE := Lib.hid (bto HB3.out hb)
          clear hb
          go_wp2_with fail
          go_ret
          exact ⟨rfl, HBE.out⟩
        · have H4 := Lib.hid h4
          have ha : 1 ≤ a ∧ a ≤ 20 := by simpa [inR] using h4
          clear h4
          cases h5 : inR b 1 9
          · have H5 := Lib.hid h5
            clear h5 hf0 hft htn hx0 hx1 ha
            go_enter Try.func7, Try.ntmps7
            go_wp2_with fail
            go_at_call 15
            refine (ready_any _ d _ (HV.out.below HB0.out)).mono ?_
            rintro e w1 ⟨rfl, hb⟩
            rw [H1.out]
            have HB1 := Lib.hid (bto HB0.out hb)
            replace X := X.keep hb
            replace S := S.keep hb
            replace T := T.keep hb
            try clear x0 x1 x2 x3 lX
            try clear s0 s1 s2 t0 t1
            obtain ⟨x0, x1, x2, x3⟩ := id X
            have lX := X.lt
            have s0 := S 0 _ rfl
            have s1 := S 1 _ rfl
            have s2 := S 2 _ rfl
            have t0 := T 0 _ rfl
            have t1 := T 1 _ rfl
            clear hb HB0
            go_wp2_with fail
            go_at_call 16
            refine (rAreSome_any _ d _ _ _ (HV.out.below HB1.out) HL1.out).mono ?_
            rintro e w2 ⟨rfl, hb⟩
            rw [H2.out]
            have HB2 := Lib.hid (bto HB1.out hb)
            replace X := X.keep hb
            replace S := S.keep hb
            replace T := T.keep hb
            try clear x0 x1 x2 x3 lX
            try clear s0 s1 s2 t0 t1
            obtain ⟨x0, x1, x2, x3⟩ := id X
            have lX := X.lt
            have s0 := S 0 _ rfl
            have s1 := S 1 _ rfl
            have s2 := S 2 _ rfl
            have t0 := T 0 _ rfl
            have t1 := T 1 _ rfl
            clear hb HB1
            go_wp2_with fail
            go_at_call 17
            refine (rIsPt_any _ d _ _ (HV.out.below HB2.out) HL2.out).mono ?_
            rintro e w3 ⟨rfl, hb⟩
            rw [H3.out]
            have HB3 := Lib.hid (bto HB2.out hb)
            replace X := X.keep hb
            replace S := S.keep hb
            replace T := T.keep hb
            try clear x0 x1 x2 x3 lX
            try clear s0 s1 s2 t0 t1
            obtain ⟨x0, x1, x2, x3⟩ := id X
            have lX := X.lt
            have s0 := S 0 _ rfl
            have s1 := S 1 _ rfl
            have s2 := S 2 _ rfl
            have t0 := T 0 _ rfl
            have t1 := T 1 _ rfl
            clear hb HB2
            go_wp2_with fail
            go_at_call 23
            refine (rWithin_any _ _ _ _).mono ?_
            rintro e w' ⟨rfl, hww⟩
            obtain rfl := hww.symm
            rw [H4.out]
            go_wp2_with fail
            go_at_call 23
            refine (rWithin_any _ _ _ _).mono ?_
            rintro e w' ⟨rfl, hww⟩
            obtain rfl := hww.symm
            rw [H5.out]
            go_wp2_with fail
            go_at_call 18
            refine (works_any _).mono ?_
            rintro e w9 ⟨rfl, hb⟩
            have HBE := Lib.hid (bto HB3.out hb)
            clear hb
            go_wp2_with fail
            go_ret
            exact ⟨rfl, HBE.out⟩
          · have H5 := Lib.hid h5
            have hb9 : 1 ≤ b ∧ b ≤ 9 := by simpa [inR] using h5
            clear h5
            obtain ⟨ha1, ha2⟩ := ha
            obtain ⟨hb1, hb2⟩ := hb9
            obtain ⟨f, rfl⟩ := Int.eq_ofNat_of_zero_le hf0
            obtain ⟨t, rfl⟩ := Int.eq_ofNat_of_zero_le (show 0 ≤ t by omega)
            obtain ⟨x, rfl⟩ := Int.eq_ofNat_of_zero_le hx0
            obtain ⟨a, rfl⟩ := Int.eq_ofNat_of_zero_le (show 0 ≤ a by omega)
            obtain ⟨b, rfl⟩ := Int.eq_ofNat_of_zero_le (show 0 ≤ b by omega)
            obtain ⟨W, n1, m1, k1, hTS⟩ := times_said HVD.out f t x a b (by omega) (by omega) (by omega) (by omega) (by omega)
            have HTS := Lib.hid hTS
            have HN0 := Lib.hid (show 0 < d.odds.length by omega)
            have HMT := Lib.hid (mul_times d a b)
            clear hTS hf0 hft htn hx0 hx1
            go_enter Try.func7, Try.ntmps7
            go_wp2_with fail
            go_at_call 15
            refine (ready_any _ d _ (HV.out.below HB0.out)).mono ?_
            rintro e w1 ⟨rfl, hb⟩
            rw [H1.out]
            have HB1 := Lib.hid (bto HB0.out hb)
            replace X := X.keep hb
            replace S := S.keep hb
            replace T := T.keep hb
            try clear x0 x1 x2 x3 lX
            try clear s0 s1 s2 t0 t1
            obtain ⟨x0, x1, x2, x3⟩ := id X
            have lX := X.lt
            have s0 := S 0 _ rfl
            have s1 := S 1 _ rfl
            have s2 := S 2 _ rfl
            have t0 := T 0 _ rfl
            have t1 := T 1 _ rfl
            clear hb HB0
            go_wp2_with fail
            go_at_call 16
            refine (rAreSome_any _ d _ _ _ (HV.out.below HB1.out) HL1.out).mono ?_
            rintro e w2 ⟨rfl, hb⟩
            rw [H2.out]
            have HB2 := Lib.hid (bto HB1.out hb)
            replace X := X.keep hb
            replace S := S.keep hb
            replace T := T.keep hb
            try clear x0 x1 x2 x3 lX
            try clear s0 s1 s2 t0 t1
            obtain ⟨x0, x1, x2, x3⟩ := id X
            have lX := X.lt
            have s0 := S 0 _ rfl
            have s1 := S 1 _ rfl
            have s2 := S 2 _ rfl
            have t0 := T 0 _ rfl
            have t1 := T 1 _ rfl
            clear hb HB1
            go_wp2_with fail
            go_at_call 17
            refine (rIsPt_any _ d _ _ (HV.out.below HB2.out) HL2.out).mono ?_
            rintro e w3 ⟨rfl, hb⟩
            rw [H3.out]
            have HB3 := Lib.hid (bto HB2.out hb)
            replace X := X.keep hb
            replace S := S.keep hb
            replace T := T.keep hb
            try clear x0 x1 x2 x3 lX
            try clear s0 s1 s2 t0 t1
            obtain ⟨x0, x1, x2, x3⟩ := id X
            have lX := X.lt
            have s0 := S 0 _ rfl
            have s1 := S 1 _ rfl
            have s2 := S 2 _ rfl
            have t0 := T 0 _ rfl
            have t1 := T 1 _ rfl
            clear hb HB2
            go_wp2_with fail
            go_at_call 23
            refine (rWithin_any _ _ _ _).mono ?_
            rintro e w' ⟨rfl, hww⟩
            obtain rfl := hww.symm
            rw [H4.out]
            go_wp2_with fail
            go_at_call 23
            refine (rWithin_any _ _ _ _).mono ?_
            rintro e w' ⟨rfl, hww⟩
            obtain rfl := hww.symm
            rw [H5.out]
            go_wp2_with fail
            go_at_call 19
            refine (copy_any _ d _ (HV.out.below HB3.out) HL1.out HL2.out).mono ?_
            rintro e w4 ⟨v', rfl, hown, hb⟩
            obtain ⟨g, cap, Ao2, co, rfl, hg1, hg2, hO⟩ := hown.at_ HPOS.out
            obtain ⟨go, co', hoe, hgo1, hgo2⟩ := own_shape_pos hO.odds HN0.out
            obtain ⟨rfl, -, rfl⟩ := slice_inj hoe
            have HQ := Lib.hid (show w.heap.size + 2 < g ∧ g < w4.heap.size ∧ w.heap.size + 2 < go ∧ go < w4.heap.size from (by have := box_lt T; omega))
            have HG1 := Lib.hid (And.intro hg1 hgo1)
            have HB4 := Lib.hid (bto HB3.out hb)
            replace X := X.keep hb
            replace S := S.keep hb
            replace T := T.keep hb
            try clear x0 x1 x2 x3 lX
            try clear s0 s1 s2 t0 t1
            obtain ⟨x0, x1, x2, x3⟩ := id X
            have lX := X.lt
            have s0 := S 0 _ rfl
            have s1 := S 1 _ rfl
            have s2 := S 2 _ rfl
            have t0 := T 0 _ rfl
            have t1 := T 1 _ rfl
            have HO := Lib.hid hO
            have lT := box_lt T
            clear hb hO hown hg1 hg2 hgo1 hgo2 hoe HB3
            go_wp2_with fail
            have hX := Lib.hid (X.old (.cells #[.slice (some ⟨g, 0, none⟩) d.pts.length cap, .slice (some ⟨go, 0, none⟩) d.odds.length co] 25))
            have hY := Lib.hid (Box2.new w4 (.slice (some ⟨g, 0, none⟩) d.pts.length cap) (.slice (some ⟨go, 0, none⟩) d.odds.length co) 25)
            have hS := Lib.hid (S.keep ((Below.refl w4.heap.size w4).alloc (Nat.le_refl _) (.cells #[.slice (some ⟨g, 0, none⟩) d.pts.length cap, .slice (some ⟨go, 0, none⟩) d.odds.length co] 25)))
            have hT := Lib.hid (T.keep ((Below.refl w4.heap.size w4).alloc (Nat.le_refl _) (.cells #[.slice (some ⟨g, 0, none⟩) d.pts.length cap, .slice (some ⟨go, 0, none⟩) d.odds.length co] 25)))
            have hW := Lib.hid (HB4.out.alloc HB4.out.size (.cells #[.slice (some ⟨g, 0, none⟩) d.pts.length cap, .slice (some ⟨go, 0, none⟩) d.odds.length co] 25))
            have hA := Lib.hid (show OwnAt (w4.alloc (.cells #[.slice (some ⟨g, 0, none⟩) d.pts.length cap, .slice (some ⟨go, 0, none⟩) d.odds.length co] 25)) w3.heap.size g cap (.slice (some ⟨go, 0, none⟩) d.odds.length co) (mulP d a 0) from HO.out.below ((Below.refl _ _).alloc (Nat.le_refl _) _))
            obtain ⟨bs, hbs⟩ : ∃ bs, w3.heap.size = bs := ⟨_, rfl⟩
            obtain ⟨bx, hbx⟩ : ∃ bx, w4.heap.size = bx := ⟨_, rfl⟩
            rw [hbs] at hA HG1
            rw [hbx] at hY HQ
            rw [hbx]
            clear X S T x0 x1 x2 x3 lX s0 s1 s2 t0 t1 lT HB4 HO hbs
            go_loopw [8] (fun i wr => ∃ k : Nat, k ≤ d.pts.length ∧ i = I k ∧ Hid (OwnAt wr bs g cap (.slice (some ⟨go, 0, none⟩) d.odds.length co) (mulP d a k)) ∧ Hid (Box2 wr bx (.slice (some ⟨g, 0, none⟩) d.pts.length cap) (.slice (some ⟨go, 0, none⟩) d.odds.length co)) ∧ Hid (Box2 wr w.heap.size (.slice Ap d.pts.length cp) (.slice Ao d.odds.length co0)) ∧ Hid (Cells wr (w.heap.size + 1) [I f, I t, I x, I y]) ∧ Hid (Cells wr (w.heap.size + 2) [I a, I b]) ∧ Hid (Below w.heap.size w wr)) (fun i _ => d.pts.length - (intOf i).toNat)
            case atStart => exact ⟨0, Nat.zero_le _, rfl, hA, hY, hX, hS, hT, hW⟩
            case round =>
              clear hA hY hX hS hT hW hbx
              obtain ⟨k, hk, rfl, hA, hY, hX, hS, hT, hW⟩ := hrel
              by_cases hlt : k < d.pts.length
              · have hk7 : k < 1000 := by have := HL2.out; omega
                have hki : (k : Int) < (d.pts.length : Int) := by omega
                obtain ⟨x0, x1, x2, x3⟩ := id hX.out
                have hlk : k < (mulP d a k).pts.length := by rw [(mulP_len d a k).1]; exact hlt
                have hcv := mulP_at d a k hlt hlk
                obtain ⟨c, hc⟩ : ∃ c, costAt d k = c := ⟨_, rfl⟩
                have hcb := costAt_bd HVD.out k
                rw [hc] at hcv hcb
                obtain ⟨hcb1, hcb2⟩ := hcb
                have hmb := mul_bd hcb1 hcb2 (show (0 : Int) ≤ (a : Int) by omega) ha2
                have i1 : IntKind.i64.wrap (c * (a : Int)) = c * (a : Int) := IntWalk.i64_in _ (by omega)
                have HC := Lib.hid hc
                clear hc hmb
                go_wp2_with fail
                refine wp_region_segK [] [0, 1, 2, 3, 4, 5, 6, 7, 8] [9, 10, 11] 9 (by kernel_rfl) (by kernel_rfl) ?_
                intro KQ hKQ wn hb
                obtain ⟨q0, q1⟩ := (hA.out.below hb).cell k hlk
                rw [hcv] at q0
                have j0 := cell_regrown (hY.out.keep hb).c0
                have j1 := cell_regrown (hT.out.keep hb 0 _ rfl)
                have j2 := cell_regrown q0
                clear x0 x1 x2 x3 hcv
                refine seg_last ?_
                simp only [opsAt, List.filterMap_cons, List.filterMap_nil, List.getElem?_toArray, List.getElem?_cons_succ, List.getElem?_cons_zero]
                repeat (first | go_big_quiet_step (fail) | quiet_step (fail))
                refine wpQuiet_nil ?_
                clear j0 j1 j2 i1
                go_wp2_with fail
                go_roundw
                case rel =>
                  obtain ⟨p1, p2, p3, p4⟩ := HQ.out
                  have hA2 := (hA.out.below hb).cost k (c * (a : Int)) hlk
                  exact ⟨k + 1, by omega, by go_num, Lib.hid (by
                    show OwnAt _ _ _ _ _ (setCost (mulP d a k) k (costAt d k * (a : Int)))
                    rw [HC.out]
                    exact hA2), Lib.hid ((hY.out.keep hb).other _ _ (by show g ≠ _; omega)), Lib.hid ((hX.out.keep hb).other _ _ (by show g ≠ _; omega)), Lib.hid ((hS.out.keep hb).other _ _ (by show g ≠ _; omega)), Lib.hid ((hT.out.keep hb).other _ _ (by show g ≠ _; omega)), Lib.hid ((bto hW.out hb).setCell (p := ⟨g, k * 3 + 2, none⟩) (by show w.heap.size ≤ g; omega) _)⟩
                case measure => first | (simp [intOf]; done) | (simp [intOf]; omega)
              · obtain rfl : k = d.pts.length := by omega
                obtain ⟨x0, x1, x2, x3⟩ := id hX.out
                go_wp2_with fail
                clear x0 x1 x2 x3
                obtain ⟨wo, rfl⟩ : ∃ wo : World, wo = wr := ⟨_, rfl⟩
                have hA := Lib.hid (show OwnAt wo bs g cap (.slice (some ⟨go, 0, none⟩) d.odds.length co) (mulO d a b 0) from hA.out)
                go_loopw [9] (fun i wr => ∃ k : Nat, k ≤ d.odds.length ∧ i = I k ∧ Hid (OwnAt wr bs g cap (.slice (some ⟨go, 0, none⟩) d.odds.length co) (mulO d a b k)) ∧ Hid (Box2 wr bx (.slice (some ⟨g, 0, none⟩) d.pts.length cap) (.slice (some ⟨go, 0, none⟩) d.odds.length co)) ∧ Hid (Box2 wr w.heap.size (.slice Ap d.pts.length cp) (.slice Ao d.odds.length co0)) ∧ Hid (Cells wr (w.heap.size + 1) [I f, I t, I x, I y]) ∧ Hid (Cells wr (w.heap.size + 2) [I a, I b]) ∧ Hid (Below w.heap.size w wr)) (fun i _ => d.odds.length - (intOf i).toNat)
                case atStart => exact ⟨0, Nat.zero_le _, rfl, hA, hY, hX, hS, hT, hW⟩
                case round =>
                  clear hA hY hX hS hT hW hlt
                  obtain ⟨k, hk, rfl, hA, hY, hX, hS, hT, hW⟩ := hrel
                  by_cases hlt : k < d.odds.length
                  · have hk7 : k < 1000 := by have := HL1.out; omega
                    have hki : (k : Int) < (d.odds.length : Int) := by omega
                    obtain ⟨x0, x1, x2, x3⟩ := id hX.out
                    have hlo := (mulO_len d a b k).2
                    have hgz := mulO_get d a b k hlt k (by omega)
                    rw [if_neg (by omega)] at hgz
                    obtain ⟨z, hz⟩ : ∃ z, d.odds[k] = z := ⟨_, rfl⟩
                    have hzb := (valid_spec HVD.out).2.2.2 d.odds[k] (List.getElem_mem hlt)
                    rw [hz] at hgz hzb
                    have HZ := Lib.hid (show d.odds.getD k 0 = z by rw [← hz]; simp [List.getD, List.getElem?_eq_getElem hlt])
                    obtain ⟨hzb1, hzb2⟩ := hzb
                    have hmb := mul_bd (show 0 ≤ z by omega) hzb2 (show (0 : Int) ≤ (b : Int) by omega) hb2
                    have i1 : IntKind.i64.wrap (z * (b : Int)) = z * (b : Int) := IntWalk.i64_in _ (by omega)
                    clear hz hmb
                    go_wp2_with fail
                    refine wp_region_segK [] [0, 1, 2, 3, 4, 5, 6, 7] [8, 9] 8 (by kernel_rfl) (by kernel_rfl) ?_
                    intro KQ hKQ wn hb
                    have q0 := (hA.out.below hb).oddVal hlo.symm k z hgz
                    obtain ⟨-, q1⟩ := (hA.out.below hb).oddAt k (by rw [hlo]; exact hlt)
                    have j0 := cell_regrown (hY.out.keep hb).c1
                    have j1 := cell_regrown (hT.out.keep hb 1 _ rfl)
                    have j2 := cell_regrown q0
                    have HLO := Lib.hid hlo
                    clear x0 x1 x2 x3 hgz hlo
                    refine seg_last ?_
                    simp only [opsAt, List.filterMap_cons, List.filterMap_nil, List.getElem?_toArray, List.getElem?_cons_succ, List.getElem?_cons_zero]
                    repeat (first | go_big_quiet_step (fail) | quiet_step (fail))
                    refine wpQuiet_nil ?_
                    clear j0 j1 j2 i1
                    go_wp2_with fail
                    go_roundw
                    case rel =>
                      obtain ⟨p1, p2, p3, p4⟩ := HQ.out
                      have hA1 := hA.out.below hb
                      have hA2 : OwnAt (wn.setCell ⟨go, k, none⟩ (I (z * (b : Int)))) bs g cap (.slice (some ⟨go, 0, none⟩) d.odds.length co) (setOdd (mulO d a b k) k (z * (b : Int))) := by
                        have h5 : OwnAt wn bs g cap (.slice (some ⟨go, 0, none⟩) (mulO d a b k).odds.length co) (mulO d a b k) := by rw [HLO.out]; exact hA1
                        have h6 := h5.odd k (z * (b : Int))
                        rw [HLO.out] at h6
                        exact h6
                      exact ⟨k + 1, by omega, by go_num, Lib.hid (by
                        show OwnAt _ _ _ _ _ (setOdd (mulO d a b k) k (d.odds.getD k 0 * (b : Int)))
                        rw [HZ.out]
                        exact hA2), Lib.hid ((hY.out.keep hb).other _ _ (by show go ≠ _; omega)), Lib.hid ((hX.out.keep hb).other _ _ (by show go ≠ _; omega)), Lib.hid ((hS.out.keep hb).other _ _ (by show go ≠ _; omega)), Lib.hid ((hT.out.keep hb).other _ _ (by show go ≠ _; omega)), Lib.hid ((bto hW.out hb).setCell (p := ⟨go, k, none⟩) (by show w.heap.size ≤ go; omega) _)⟩
                    case measure => first | (simp [intOf]; done) | (simp [intOf]; omega)
                  · obtain rfl : k = d.odds.length := by omega
                    have HLN := Lib.hid (show LineAt wr (.agg #[.slice (some ⟨g, 0, none⟩) d.pts.length cap, .slice (some ⟨go, 0, none⟩) d.odds.length co]) (mulO d a b d.odds.length) by
                      have h := hA.out.line.line
                      rw [HMT.out.lp] at h
                      exact h)
                    obtain ⟨D, hD⟩ : ∃ D, mulO d a b d.odds.length = D := ⟨_, rfl⟩
                    rw [hD] at HLN HMT HTS
                    clear hA hD hlt
                    have HL3 := Lib.hid (show D.odds.length ≤ 1000 by rw [HMT.out.lo]; exact HL1.out)
                    have HL4 := Lib.hid (show D.pts.length ≤ 1000 by rw [HMT.out.lp]; exact HL2.out)
                    obtain ⟨hw1, hw2⟩ := HTS.out.bw
                    obtain ⟨hn1, hn2⟩ := HTS.out.bn
                    obtain ⟨hm1, hm2⟩ := HTS.out.bm
                    obtain ⟨hk1, hk2⟩ := HTS.out.bk
                    obtain ⟨hwm1, hwm2⟩ := HTS.out.bwm
                    have hle := HTS.out.le
                    have HRW := Lib.hid HTS.out.w
                    have HRA := Lib.hid HTS.out.av
                    have HRF := Lib.hid HTS.out.fr
                    have X := hX.out
                    have Y := hY.out
                    have S := hS.out
                    have T := hT.out
                    obtain ⟨x0, x1, x2, x3⟩ := id X
                    obtain ⟨y0, y1, y2, y3⟩ := id Y
                    have lX := X.lt
                    have lY := Y.lt
                    have s0 := S 0 _ rfl
                    have s1 := S 1 _ rfl
                    have s2 := S 2 _ rfl
                    have t0 := T 0 _ rfl
                    have t1 := T 1 _ rfl
                    have lS := box_lt S
                    have lT := box_lt T
                    have HW0 := hW
                    clear hX hY hS hT hW
                    cases hV : valid D
                    · have HVV := Lib.hid hV
                      clear hV
                      go_wp2_with fail
                      go_at_call 20
                      refine (worst_any _ d _ _ _ (HV.out.below HW0.out) HL1.out).mono ?_
                      rintro e v1 ⟨rfl, hb⟩
                      rw [HRW.out]
                      have HW1 := Lib.hid (bto HW0.out hb)
                      replace HLN := Lib.hid (HLN.out.below hb)
                      replace X := X.keep hb
                      replace Y := Y.keep hb
                      replace S := S.keep hb
                      replace T := T.keep hb
                      clear x0 x1 x2 x3 y0 y1 y2 y3 lX lY s0 s1 s2 t0 t1 lS lT
                      obtain ⟨x0, x1, x2, x3⟩ := id X
                      obtain ⟨y0, y1, y2, y3⟩ := id Y
                      have lX := X.lt
                      have lY := Y.lt
                      have s0 := S 0 _ rfl
                      have s1 := S 1 _ rfl
                      have s2 := S 2 _ rfl
                      have t0 := T 0 _ rfl
                      have t1 := T 1 _ rfl
                      have lS := box_lt S
                      have lT := box_lt T
                      clear hb HW0
                      go_wp2_with fail
                      go_at_call 21
                      refine (avg_any _ d _ _ _ (HV.out.below HW1.out) HL1.out).mono ?_
                      rintro e v2 ⟨rfl, hb⟩
                      rw [HRA.out]
                      have HW2 := Lib.hid (bto HW1.out hb)
                      replace HLN := Lib.hid (HLN.out.below hb)
                      replace X := X.keep hb
                      replace Y := Y.keep hb
                      replace S := S.keep hb
                      replace T := T.keep hb
                      clear x0 x1 x2 x3 y0 y1 y2 y3 lX lY s0 s1 s2 t0 t1 lS lT
                      obtain ⟨x0, x1, x2, x3⟩ := id X
                      obtain ⟨y0, y1, y2, y3⟩ := id Y
                      have lX := X.lt
                      have lY := Y.lt
                      have s0 := S 0 _ rfl
                      have s1 := S 1 _ rfl
                      have s2 := S 2 _ rfl
                      have t0 := T 0 _ rfl
                      have t1 := T 1 _ rfl
                      have lS := box_lt S
                      have lT := box_lt T
                      clear hb HW1
                      go_wp2_with fail
                      go_at_call 15
                      refine (ready_any _ D _ (HLN.out.below ((Below.refl _ _).alloc (Nat.le_refl _) _))).mono ?_
                      rintro e v3 ⟨rfl, hb⟩
                      rw [HVV.out]
                      have HW3 := Lib.hid (bto (HW2.out.alloc HW2.out.size _) hb)
                      replace HLN := Lib.hid ((HLN.out.below ((Below.refl _ _).alloc (Nat.le_refl _) _)).below hb)
                      replace X := (X.old _).keep hb
                      replace Y := (Y.old _).keep hb
                      replace S := (S.keep ((Below.refl _ _).alloc (Nat.le_refl _) _)).keep hb
                      replace T := (T.keep ((Below.refl _ _).alloc (Nat.le_refl _) _)).keep hb
                      have Z1 := (Box2.new v2 (I (n1 : Int)) (I (m1 : Int)) 41).keep hb
                      try clear aZ1 bZ1 cZ1 dZ1 lZ1
                      obtain ⟨aZ1, bZ1, cZ1, dZ1⟩ := id Z1
                      have lZ1 := Z1.lt
                      clear x0 x1 x2 x3 y0 y1 y2 y3 lX lY s0 s1 s2 t0 t1 lS lT
                      obtain ⟨x0, x1, x2, x3⟩ := id X
                      obtain ⟨y0, y1, y2, y3⟩ := id Y
                      have lX := X.lt
                      have lY := Y.lt
                      have s0 := S 0 _ rfl
                      have s1 := S 1 _ rfl
                      have s2 := S 2 _ rfl
                      have t0 := T 0 _ rfl
                      have t1 := T 1 _ rfl
                      have lS := box_lt S
                      have lT := box_lt T
                      clear hb HW2
                      go_wp2_with fail
                      go_at_call 18
                      refine (works_any _).mono ?_
                      rintro e w9 ⟨rfl, hb⟩
                      have HBE := Lib.hid (bto HW3.out hb)
                      clear hb
                      go_wp2_with fail
                      go_ret
                      exact ⟨rfl, HBE.out⟩
                    · have HVV := Lib.hid hV
                      have HRW2 := Lib.hid (HTS.out.w' hV)
                      have HRA2 := Lib.hid (HTS.out.av' hV)
                      have HRX2 := Lib.hid (HTS.out.nx' hV)
                      have HRF2 := Lib.hid (HTS.out.fr' hV)
                      have HRD : ∀ W' : World, Calls Try.prog 26 #[I ((n1 : Int) * (a : Int)), I (m1 : Int)] W' fun e w' => e = .returned (.agg #[I (redR ((n1 : Int) * (a : Int)) m1).1, I (redR ((n1 : Int) * (a : Int)) m1).2]) ∧ Below W'.heap.size W' w' := fun W' => by
                        have hna : n1 * a ≤ 1000000 := by
                          have h1 := Nat.mul_le_mul (show n1 ≤ 10000 by omega) (show a ≤ 20 by omega)
                          omega
                        have h := reduced_any (n1 * a) m1 W' hna (by omega) (by omega)
                        simp only [Int.natCast_mul] at h
                        exact h
                      have HRD := Lib.hid HRD
                      have hna := mul_bd hn1 hn2 (show (0 : Int) ≤ (a : Int) by omega) ha2
                      have hwa := mul_bd hw1 hw2 (show (0 : Int) ≤ (a : Int) by omega) ha2
                      have hka := mul_bd hk1 hk2 (show (0 : Int) ≤ (a : Int) by omega) ha2
                      obtain ⟨hna1, hna2⟩ := hna
                      obtain ⟨hwa1, hwa2⟩ := hwa
                      obtain ⟨hka1, hka2⟩ := hka
                      obtain ⟨⟨r0, r1⟩, hr⟩ : ∃ r, redR ((n1 : Int) * (a : Int)) m1 = r := ⟨_, rfl⟩
                      rw [hr] at HRA2 HRD
                      obtain ⟨⟨nx, ne⟩, hnx⟩ : ∃ r, nextR d f t = r := ⟨_, rfl⟩
                      rw [hnx] at HRX2
                      have HRX := Lib.hid hnx
                      clear hV hr hnx
                      go_wp2_with fail
                      go_at_call 20
                      refine (worst_any _ d _ _ _ (HV.out.below HW0.out) HL1.out).mono ?_
                      rintro e v1 ⟨rfl, hb⟩
                      rw [HRW.out]
                      have HW1 := Lib.hid (bto HW0.out hb)
                      replace HLN := Lib.hid (HLN.out.below hb)
                      replace X := X.keep hb
                      replace Y := Y.keep hb
                      replace S := S.keep hb
                      replace T := T.keep hb
                      clear x0 x1 x2 x3 y0 y1 y2 y3 lX lY s0 s1 s2 t0 t1 lS lT
                      obtain ⟨x0, x1, x2, x3⟩ := id X
                      obtain ⟨y0, y1, y2, y3⟩ := id Y
                      have lX := X.lt
                      have lY := Y.lt
                      have s0 := S 0 _ rfl
                      have s1 := S 1 _ rfl
                      have s2 := S 2 _ rfl
                      have t0 := T 0 _ rfl
                      have t1 := T 1 _ rfl
                      have lS := box_lt S
                      have lT := box_lt T
                      clear hb HW0
                      go_wp2_with fail
                      go_at_call 21
                      refine (avg_any _ d _ _ _ (HV.out.below HW1.out) HL1.out).mono ?_
                      rintro e v2 ⟨rfl, hb⟩
                      rw [HRA.out]
                      have HW2 := Lib.hid (bto HW1.out hb)
                      replace HLN := Lib.hid (HLN.out.below hb)
                      replace X := X.keep hb
                      replace Y := Y.keep hb
                      replace S := S.keep hb
                      replace T := T.keep hb
                      clear x0 x1 x2 x3 y0 y1 y2 y3 lX lY s0 s1 s2 t0 t1 lS lT
                      obtain ⟨x0, x1, x2, x3⟩ := id X
                      obtain ⟨y0, y1, y2, y3⟩ := id Y
                      have lX := X.lt
                      have lY := Y.lt
                      have s0 := S 0 _ rfl
                      have s1 := S 1 _ rfl
                      have s2 := S 2 _ rfl
                      have t0 := T 0 _ rfl
                      have t1 := T 1 _ rfl
                      have lS := box_lt S
                      have lT := box_lt T
                      clear hb HW1
                      go_wp2_with fail
                      go_at_call 15
                      refine (ready_any _ D _ (HLN.out.below ((Below.refl _ _).alloc (Nat.le_refl _) _))).mono ?_
                      rintro e v3 ⟨rfl, hb⟩
                      rw [HVV.out]
                      have HW3 := Lib.hid (bto (HW2.out.alloc HW2.out.size _) hb)
                      replace HLN := Lib.hid ((HLN.out.below ((Below.refl _ _).alloc (Nat.le_refl _) _)).below hb)
                      replace X := (X.old _).keep hb
                      replace Y := (Y.old _).keep hb
                      replace S := (S.keep ((Below.refl _ _).alloc (Nat.le_refl _) _)).keep hb
                      replace T := (T.keep ((Below.refl _ _).alloc (Nat.le_refl _) _)).keep hb
                      have Z1 := (Box2.new v2 (I (n1 : Int)) (I (m1 : Int)) 41).keep hb
                      try clear aZ1 bZ1 cZ1 dZ1 lZ1
                      obtain ⟨aZ1, bZ1, cZ1, dZ1⟩ := id Z1
                      have lZ1 := Z1.lt
                      clear x0 x1 x2 x3 y0 y1 y2 y3 lX lY s0 s1 s2 t0 t1 lS lT
                      obtain ⟨x0, x1, x2, x3⟩ := id X
                      obtain ⟨y0, y1, y2, y3⟩ := id Y
                      have lX := X.lt
                      have lY := Y.lt
                      have s0 := S 0 _ rfl
                      have s1 := S 1 _ rfl
                      have s2 := S 2 _ rfl
                      have t0 := T 0 _ rfl
                      have t1 := T 1 _ rfl
                      have lS := box_lt S
                      have lT := box_lt T
                      clear hb HW2
                      go_wp2_with fail
                      go_at_call 20
                      refine (worst_any _ D _ _ _ HLN.out HL3.out).mono ?_
                      rintro e v4 ⟨rfl, hb⟩
                      rw [HRW2.out]
                      have HW4 := Lib.hid (bto HW3.out hb)
                      replace HLN := Lib.hid (HLN.out.below hb)
                      replace X := X.keep hb
                      replace Y := Y.keep hb
                      replace S := S.keep hb
                      replace T := T.keep hb
                      replace Z1 := Z1.keep hb
                      try clear aZ1 bZ1 cZ1 dZ1 lZ1
                      obtain ⟨aZ1, bZ1, cZ1, dZ1⟩ := id Z1
                      have lZ1 := Z1.lt
                      clear x0 x1 x2 x3 y0 y1 y2 y3 lX lY s0 s1 s2 t0 t1 lS lT
                      obtain ⟨x0, x1, x2, x3⟩ := id X
                      obtain ⟨y0, y1, y2, y3⟩ := id Y
                      have lX := X.lt
                      have lY := Y.lt
                      have s0 := S 0 _ rfl
                      have s1 := S 1 _ rfl
                      have s2 := S 2 _ rfl
                      have t0 := T 0 _ rfl
                      have t1 := T 1 _ rfl
                      have lS := box_lt S
                      have lT := box_lt T
                      clear hb HW3
                      go_wp2_with fail
                      go_at_call 21
                      refine (avg_any _ D _ _ _ HLN.out HL3.out).mono ?_
                      rintro e v5 ⟨rfl, hb⟩
                      rw [HRA2.out]
                      have HW5 := Lib.hid (bto HW4.out hb)
                      replace HLN := Lib.hid (HLN.out.below hb)
                      replace X := X.keep hb
                      replace Y := Y.keep hb
                      replace S := S.keep hb
                      replace T := T.keep hb
                      replace Z1 := Z1.keep hb
                      try clear aZ1 bZ1 cZ1 dZ1 lZ1
                      obtain ⟨aZ1, bZ1, cZ1, dZ1⟩ := id Z1
                      have lZ1 := Z1.lt
                      clear x0 x1 x2 x3 y0 y1 y2 y3 lX lY s0 s1 s2 t0 t1 lS lT
                      obtain ⟨x0, x1, x2, x3⟩ := id X
                      obtain ⟨y0, y1, y2, y3⟩ := id Y
                      have lX := X.lt
                      have lY := Y.lt
                      have s0 := S 0 _ rfl
                      have s1 := S 1 _ rfl
                      have s2 := S 2 _ rfl
                      have t0 := T 0 _ rfl
                      have t1 := T 1 _ rfl
                      have lS := box_lt S
                      have lT := box_lt T
                      clear hb HW4
                      go_wp2_with fail
                      go_at_call 25
                      refine (next_any _ d _ _ _ (HV.out.below (HW5.out.alloc HW5.out.size _)) HL1.out).mono ?_
                      rintro e v6 ⟨rfl, hb⟩
                      rw [HRX.out]
                      have HW6 := Lib.hid (bto (HW5.out.alloc HW5.out.size _) hb)
                      replace HLN := Lib.hid ((HLN.out.below ((Below.refl _ _).alloc (Nat.le_refl _) _)).below hb)
                      replace X := (X.old _).keep hb
                      replace Y := (Y.old _).keep hb
                      replace S := (S.keep ((Below.refl _ _).alloc (Nat.le_refl _) _)).keep hb
                      replace T := (T.keep ((Below.refl _ _).alloc (Nat.le_refl _) _)).keep hb
                      replace Z1 := (Z1.old _).keep hb
                      have Z2 := (Box2.new v5 (I r0) (I r1) 41).keep hb
                      try clear aZ1 bZ1 cZ1 dZ1 lZ1
                      obtain ⟨aZ1, bZ1, cZ1, dZ1⟩ := id Z1
                      have lZ1 := Z1.lt
                      try clear aZ2 bZ2 cZ2 dZ2 lZ2
                      obtain ⟨aZ2, bZ2, cZ2, dZ2⟩ := id Z2
                      have lZ2 := Z2.lt
                      clear x0 x1 x2 x3 y0 y1 y2 y3 lX lY s0 s1 s2 t0 t1 lS lT
                      obtain ⟨x0, x1, x2, x3⟩ := id X
                      obtain ⟨y0, y1, y2, y3⟩ := id Y
                      have lX := X.lt
                      have lY := Y.lt
                      have s0 := S 0 _ rfl
                      have s1 := S 1 _ rfl
                      have s2 := S 2 _ rfl
                      have t0 := T 0 _ rfl
                      have t1 := T 1 _ rfl
                      have lS := box_lt S
                      have lT := box_lt T
                      clear hb HW5
                      go_wp2_with fail
                      go_at_call 25
                      refine (next_any _ D _ _ _ HLN.out HL3.out).mono ?_
                      rintro e v7 ⟨rfl, hb⟩
                      rw [HRX2.out]
                      have HW7 := Lib.hid (bto HW6.out hb)
                      replace HLN := Lib.hid (HLN.out.below hb)
                      replace X := X.keep hb
                      replace Y := Y.keep hb
                      replace S := S.keep hb
                      replace T := T.keep hb
                      replace Z1 := Z1.keep hb
                      replace Z2 := Z2.keep hb
                      try clear aZ1 bZ1 cZ1 dZ1 lZ1
                      obtain ⟨aZ1, bZ1, cZ1, dZ1⟩ := id Z1
                      have lZ1 := Z1.lt
                      try clear aZ2 bZ2 cZ2 dZ2 lZ2
                      obtain ⟨aZ2, bZ2, cZ2, dZ2⟩ := id Z2
                      have lZ2 := Z2.lt
                      clear x0 x1 x2 x3 y0 y1 y2 y3 lX lY s0 s1 s2 t0 t1 lS lT
                      obtain ⟨x0, x1, x2, x3⟩ := id X
                      obtain ⟨y0, y1, y2, y3⟩ := id Y
                      have lX := X.lt
                      have lY := Y.lt
                      have s0 := S 0 _ rfl
                      have s1 := S 1 _ rfl
                      have s2 := S 2 _ rfl
                      have t0 := T 0 _ rfl
                      have t1 := T 1 _ rfl
                      have lS := box_lt S
                      have lT := box_lt T
                      clear hb HW6
                      go_wp2_with fail
                      have k0 := cell_regrown Z1.c0
                      have k1' := cell_regrown Z1.c1
                      have k2 := cell_regrown Z2.c0
                      have k3 := cell_regrown Z2.c1
                      have k4 := cell_regrown t0
                      have i1 : IntKind.i64.wrap ((n1 : Int) * (a : Int)) = (n1 : Int) * (a : Int) := IntWalk.i64_in _ (by omega)
                      have i2 : IntKind.i64.wrap (W * (a : Int)) = W * (a : Int) := IntWalk.i64_in _ (by omega)
                      have c1 := ext_call (w := v7) fun W' _ => HRD.out W'
                      refine wp_region_ext (by kernel_rfl) (by kernel_rfl) ?_
                      repeat (first | go_big_quiet_step (with_reducible exact c1 _ _) | quiet_step (with_reducible exact c1 _ _))
                      refine wpQuiet_nil ?_
                      clear k0 k1' k2 k3 k4 i1 i2 c1
                      intro v8 hb
                      have HW8 := Lib.hid (bto HW7.out hb)
                      replace HLN := Lib.hid (HLN.out.below hb)
                      replace X := X.keep hb
                      replace Y := Y.keep hb
                      replace S := S.keep hb
                      replace T := T.keep hb
                      replace Z1 := Z1.keep hb
                      replace Z2 := Z2.keep hb
                      clear aZ1 bZ1 cZ1 dZ1 lZ1 aZ2 bZ2 cZ2 dZ2 lZ2
                      clear x0 x1 x2 x3 y0 y1 y2 y3 lX lY s0 s1 s2 t0 t1 lS lT
                      obtain ⟨x0, x1, x2, x3⟩ := id X
                      obtain ⟨y0, y1, y2, y3⟩ := id Y
                      have lX := X.lt
                      have lY := Y.lt
                      have s0 := S 0 _ rfl
                      have s1 := S 1 _ rfl
                      have s2 := S 2 _ rfl
                      have t0 := T 0 _ rfl
                      have t1 := T 1 _ rfl
                      have lS := box_lt S
                      have lT := box_lt T
                      clear hb HW7
                      clear Z1 Z2
                      go_wp2_with fail
                      go_at_call 22
                      refine (free_any _ d _ _ (HV.out.below HW8.out) HL1.out HL2.out).mono ?_
                      rintro e v9 ⟨rfl, hb⟩
                      rw [HRF.out]
                      have HW9 := Lib.hid (bto HW8.out hb)
                      replace HLN := Lib.hid (HLN.out.below hb)
                      replace X := X.keep hb
                      replace Y := Y.keep hb
                      replace S := S.keep hb
                      replace T := T.keep hb
                      clear x0 x1 x2 x3 y0 y1 y2 y3 lX lY s0 s1 s2 t0 t1 lS lT
                      obtain ⟨x0, x1, x2, x3⟩ := id X
                      obtain ⟨y0, y1, y2, y3⟩ := id Y
                      have lX := X.lt
                      have lY := Y.lt
                      have s0 := S 0 _ rfl
                      have s1 := S 1 _ rfl
                      have s2 := S 2 _ rfl
                      have t0 := T 0 _ rfl
                      have t1 := T 1 _ rfl
                      have lS := box_lt S
                      have lT := box_lt T
                      clear hb HW8
                      go_wp2_with fail
                      go_at_call 22
                      refine (free_any _ D _ _ HLN.out HL3.out HL4.out).mono ?_
                      rintro e v10 ⟨rfl, hb⟩
                      rw [HRF2.out]
                      have HW10 := Lib.hid (bto HW9.out hb)
                      replace HLN := Lib.hid (HLN.out.below hb)
                      replace X := X.keep hb
                      replace Y := Y.keep hb
                      replace S := S.keep hb
                      replace T := T.keep hb
                      clear x0 x1 x2 x3 y0 y1 y2 y3 lX lY s0 s1 s2 t0 t1 lS lT
                      obtain ⟨x0, x1, x2, x3⟩ := id X
                      obtain ⟨y0, y1, y2, y3⟩ := id Y
                      have lX := X.lt
                      have lY := Y.lt
                      have s0 := S 0 _ rfl
                      have s1 := S 1 _ rfl
                      have s2 := S 2 _ rfl
                      have t0 := T 0 _ rfl
                      have t1 := T 1 _ rfl
                      have lS := box_lt S
                      have lT := box_lt T
                      clear hb HW9
                      go_wp2_with fail
                      go_at_call 18
                      refine (works_any _).mono ?_
                      rintro e w9 ⟨rfl, hb⟩
                      have HBE := Lib.hid (bto HW10.out hb)
                      clear hb
                      go_wp2_with fail
                      go_ret
                      exact ⟨rfl, HBE.out⟩
end Go.Proofs.Ytbddaemekgflmaa
