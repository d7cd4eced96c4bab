/- AqueductEven: the law walked. -/
import Derived.Test.YtbddaemekgflmaaRow
import Derived.Test.YtbddaemekgflmaaW21
namespace Go.Proofs.Ytbddaemekgflmaa
open Go.RowKit Go.Sort

set_option maxRecDepth 100000 in
set_option maxHeartbeats 4000000 in
theorem lawEven_any (v : Value) (d : DLine) (c f t x y : Int) (w : World) (hv : LineAt w v d) :
    Calls Try.prog 4 #[v, I c, .agg #[I f, I t, I x, I y]] w fun e w' => e = .returned (.bool true) ∧ Below w.heap.size w w' := by
  have HV := Lib.hid hv
  obtain ⟨pv, ov, rfl, hp, ho⟩ := hv
  obtain ⟨A, c1, rfl, hac, hcm, _⟩ := id ho.open_
  obtain ⟨A', c2, rfl, hac', hcm', _⟩ := id hp.open_
  have B0 := (Box2.new w (.slice A' d.pts.length c2) (.slice A d.odds.length c1) 25).old (.cells #[I f, I t, I x, I y] 27)
  have S0 := Cells.new (w.alloc (.cells #[.slice A' d.pts.length c2, .slice A d.odds.length c1] 25)) [I f, I t, I x, I y] 27
  have hs1 : (w.alloc (.cells #[.slice A' d.pts.length c2, .slice A d.odds.length c1] 25)).heap.size = w.heap.size + 1 := by simp
  rw [hs1] at S0
  have HB0 := Lib.hid (show Below w.heap.size w ((w.alloc (.cells #[.slice A' d.pts.length c2, .slice A d.odds.length c1] 25)).alloc (.cells #[I f, I t, I x, I y] 27)) from ((Below.refl _ _).alloc (Nat.le_refl _) _).alloc (by simp) _)
  clear hp ho hs1
  cases h1 : valid d
  · go_enter Try.func4, Try.ntmps4
    go_wp2_with (first | (go_at_call 15; refine (ready_any _ d _ (HV.out.below HB0.out)).mono ?_; rintro e w1 ⟨rfl, hb⟩; rw [h1]; have HB1 := Lib.hid (bto HB0.out hb); clear hb) | (go_at_call 18; refine (works_any _).mono ?_; rintro e w2 ⟨rfl, hb⟩; have HB2 := Lib.hid (bto HB1.out hb); clear hb))
    go_ret
    exact ⟨rfl, HB2.out⟩
  · obtain ⟨hn7, hnp, -⟩ := valid_spec h1
    have HNP := Lib.hid hnp
    have hl1 : d.odds.length ≤ 1000 := by omega
    have hl2 : d.pts.length ≤ 1000 := by omega
    have hpos : 0 < d.pts.length := by omega
    clear hnp
    cases h2 : someOf d f t
    · go_enter Try.func4, Try.ntmps4
      go_wp2_with (first | (go_at_call 15; refine (ready_any _ d _ (HV.out.below HB0.out)).mono ?_; rintro e w1 ⟨rfl, hb⟩; rw [h1]; have HB1 := Lib.hid (bto HB0.out hb); have B1 := B0.keep hb; have S1 := S0.keep hb; obtain ⟨x0, x1, x2, x3⟩ := id B1; have s0 := S1 0 _ rfl; have s1 := S1 1 _ rfl; clear hb) | (go_at_call 16; refine (rAreSome_any _ d _ _ _ (HV.out.below HB1.out) hl1).mono ?_; rintro e w2 ⟨rfl, hb⟩; rw [h2]; have HB2 := Lib.hid (bto HB1.out hb); clear hb) | (go_at_call 18; refine (works_any _).mono ?_; rintro e w3 ⟨rfl, hb⟩; have HB3 := Lib.hid (bto HB2.out hb); clear hb))
      go_ret
      exact ⟨rfl, HB3.out⟩
    · obtain ⟨hf0, hft, htn⟩ := someOf_spec h2
      cases h3 : inR c 0 20
      · go_enter Try.func4, Try.ntmps4
        go_wp2_with (first | (go_at_call 15; refine (ready_any _ d _ (HV.out.below HB0.out)).mono ?_; rintro e w1 ⟨rfl, hb⟩; rw [h1]; have HB1 := Lib.hid (bto HB0.out hb); have B1 := B0.keep hb; have S1 := S0.keep hb; obtain ⟨x0, x1, x2, x3⟩ := id B1; have s0 := S1 0 _ rfl; have s1 := S1 1 _ rfl; clear hb) | (go_at_call 16; refine (rAreSome_any _ d _ _ _ (HV.out.below HB1.out) hl1).mono ?_; rintro e w2 ⟨rfl, hb⟩; rw [h2]; have HB2 := Lib.hid (bto HB1.out hb); clear hb) | (go_at_call 23; refine (rWithin_any _ _ _ _).mono ?_; rintro e w' ⟨rfl, rfl⟩; rw [h3]) | (go_at_call 18; refine (works_any _).mono ?_; rintro e w3 ⟨rfl, hb⟩; have HB3 := Lib.hid (bto HB2.out hb); clear hb))
        go_ret
        exact ⟨rfl, HB3.out⟩
      · have hc : 0 ≤ c ∧ c ≤ 20 := by simpa [inR] using h3
        have HE := Lib.hid hc
        have H2 := Lib.hid h2
        have H3 := Lib.hid h3
        obtain ⟨f, rfl⟩ := Int.eq_ofNat_of_zero_le hf0
        obtain ⟨t, rfl⟩ := Int.eq_ofNat_of_zero_le (show 0 ≤ t by omega)
        obtain ⟨hc0, hc20⟩ := hc
        clear h2 h3
        go_enter Try.func4, Try.ntmps4
        go_wp2_with (first | (go_at_call 15; refine (ready_any _ d _ (HV.out.below HB0.out)).mono ?_; rintro e w1 ⟨rfl, hb⟩; rw [h1]; have HB1 := Lib.hid (bto HB0.out hb); have B1 := B0.keep hb; have S1 := S0.keep hb; obtain ⟨x0, x1, x2, x3⟩ := id B1; have s0 := S1 0 _ rfl; have s1 := S1 1 _ rfl; clear hb) | (go_at_call 16; refine (rAreSome_any _ d _ _ _ (HV.out.below HB1.out) hl1).mono ?_; rintro e w2 ⟨rfl, hb⟩; rw [H2.out]; have HB2 := Lib.hid (bto HB1.out hb); have B2 := B1.keep hb; have S2 := S1.keep hb; obtain ⟨x0, x1, x2, x3⟩ := id B2; clear hb) | (go_at_call 23; refine (rWithin_any _ _ _ _).mono ?_; rintro e w' ⟨rfl, rfl⟩; rw [H3.out]) | (go_at_call 19; refine (copy_any _ d _ (HV.out.below HB2.out) hl1 hl2).mono ?_; rintro e w3 ⟨v', rfl, hown, hb⟩; obtain ⟨g, cap, Ao, co, rfl, hg1, hg2, hO⟩ := hown.at_ hpos; have HB3 := Lib.hid (bto HB2.out hb); have B3 := B2.keep hb; have S3 := S2.keep hb; have HO := Lib.hid hO; have HQ := Lib.hid (And.intro (box_lt S2) (And.intro hg1 hg2)); clear hb hown hO B1 B2 S1 S2 hg1 hg2 x0 x1 x2 x3 s0 s1))
        obtain ⟨q1, q2, q3⟩ := HQ.out
        have hA0 := Lib.hid (show OwnAt (w3.alloc (.cells #[.slice (some ⟨g, 0, none⟩) d.pts.length cap, .slice Ao d.odds.length co] 25)) w'.heap.size g cap (.slice Ao d.odds.length co) (evenTo d c 0) from HO.out.below ((Below.refl _ _).alloc (Nat.le_refl _) _))
        have hB0 := Lib.hid (Box2.new w3 (.slice (some ⟨g, 0, none⟩) d.pts.length cap) (.slice Ao d.odds.length co) 25)
        have hB3 := Lib.hid (B3.old (.cells #[.slice (some ⟨g, 0, none⟩) d.pts.length cap, .slice Ao d.odds.length co] 25))
        have hS3 := Lib.hid (S3.keep ((Below.refl w3.heap.size w3).alloc (Nat.le_refl _) (.cells #[.slice (some ⟨g, 0, none⟩) d.pts.length cap, .slice Ao d.odds.length co] 25)))
        have hW3 := Lib.hid (HB3.out.alloc (by omega : w.heap.size ≤ w3.heap.size) (.cells #[.slice (some ⟨g, 0, none⟩) d.pts.length cap, .slice Ao d.odds.length co] 25))
        clear B3 S3
        obtain ⟨bs, hbs⟩ : ∃ bs, w'.heap.size = bs := ⟨_, rfl⟩
        obtain ⟨bx, hbx⟩ : ∃ bx, w3.heap.size = bx := ⟨_, rfl⟩
        rw [hbs] at q1 q2 hA0
        rw [hbx] at q3 hB0
        have HX := Lib.hid hbx
        have HQ := Lib.hid (And.intro q1 (And.intro q2 q3))
        clear q1 q2 q3 hbs
        have hloop : True := trivial
        rw [hbx]
        go_loopw [8] (fun i wr => ∃ k : Nat, k ≤ d.pts.length ∧ i = I k ∧ Hid (OwnAt wr bs g cap (.slice Ao d.odds.length co) (evenTo d c k)) ∧ Hid (Box2 wr bx (.slice (some ⟨g, 0, none⟩) d.pts.length cap) (.slice Ao d.odds.length co)) ∧ Hid (Box2 wr w.heap.size (.slice A' d.pts.length c2) (.slice A d.odds.length c1)) ∧ Hid (Cells wr (w.heap.size + 1) [I f, I t, I x, I y]) ∧ Hid (Below w.heap.size w wr)) (fun i _ => d.pts.length - (intOf i).toNat)
        case atStart => exact ⟨0, by omega, rfl, hA0, hB0, hB3, hS3, hW3⟩
        case round =>
          clear hA0 hB0 hB3 hS3 hW3 hbx
          obtain ⟨k, hk, rfl, hA, hB, hB3, hS, hW⟩ := hrel
          obtain ⟨x0, x1, x2, x3⟩ := id hB.out
          obtain ⟨y0, y1, y2, y3⟩ := id hB3.out
          by_cases hlt : k < d.pts.length
          · obtain ⟨hcc, hcf⟩ := hA.out.cell k (by rw [(evenTo_len d c k).1]; exact hlt)
            have hki : (k : Int) < (d.pts.length : Int) := by omega
            go_wp2_with fail
            go_roundw
            case rel =>
              obtain ⟨q1, q2, q3⟩ := HQ.out
              exact ⟨k + 1, by omega, by go_num, Lib.hid (hA.out.cost k c (by rw [(evenTo_len d c k).1]; exact hlt)), Lib.hid (hB.out.other _ _ (by show g ≠ _; omega)), Lib.hid (hB3.out.other _ _ (by show g ≠ _; omega)), Lib.hid (hS.out.other _ _ (by show g ≠ _; omega)), Lib.hid (hW.out.setCell (p := ⟨g, k * 3 + 2, none⟩) (by show w.heap.size ≤ g; omega) _)⟩
            case measure => first | (simp [intOf]; done) | (simp [intOf]; omega)
          · obtain rfl : k = d.pts.length := by omega
            have s0 := hS.out 0 _ rfl
            have s1 := hS.out 1 _ rfl
            have hd0 : Hid (Dbl c 1 0 (t - f)) := Lib.hid (.inl ⟨rfl, rfl⟩)
            go_wp2_with fail
            obtain ⟨wo, rfl⟩ : ∃ wo : World, wo = wr := ⟨_, rfl⟩
            go_loopw [9, 10] (fun bb aa wq => ∃ a b : Int, aa = I a ∧ bb = I b ∧ 1 ≤ a ∧ a ≤ 8 ∧ 0 ≤ b ∧ b ≤ 60 ∧ Hid (Dbl c a b (t - f)) ∧ wq = wo) (fun _ aa _ => 8 - (intOf aa).toNat)
            case atStart => exact ⟨1, 0, rfl, rfl, by omega, by omega, by omega, by omega, hd0, rfl⟩
            case round =>
              obtain ⟨a, b, rfl, rfl, ha1, ha8, hb0, hb60, hD, rfl⟩ := hrel
              by_cases hlt : a < (t : Int) - (f : Int)
              · have HN := Lib.hid (show a * 2 ≤ 8 ∧ b + c ≤ 60 ∧ Dbl c (a * 2) (b + c) (t - f) by
                  have hD' := hD.out
                  unfold Dbl at hD' ⊢
                  omega)
                go_wp2_with fail
                go_roundw
                case rel => exact ⟨a * 2, b + c, by go_num, by go_num, by omega, HN.out.1, by omega, HN.out.2.1, Lib.hid HN.out.2.2, by trivial⟩
                case measure => first | (simp [intOf]; done) | (simp [intOf]; omega)
              · have HV2 := Lib.hid (evenTo_valid h1 c ⟨hc0, hc20⟩ d.pts.length)
                have HW1 := Lib.hid (show worstR (evenTo d c d.pts.length) f t = (b, 0) by
                  rw [worstR_ok HV2.out f t (by omega) (by rw [(evenTo_len d c _).2]; omega)]
                  rw [even_plain hc0 f t (by have := HNP.out; omega) (by omega) hD.out (by omega)])
                have HLN := Lib.hid (show LineAt wr (.agg #[.slice (some ⟨g, 0, none⟩) d.pts.length cap, .slice Ao d.odds.length co]) (evenTo d c d.pts.length) by
                  have h := hA.out.line.line
                  rw [(evenTo_len d c d.pts.length).1] at h
                  exact h)
                have hl3 : (evenTo d c d.pts.length).odds.length ≤ 1000 := by rw [(evenTo_len d c _).2]; exact hl1
                go_wp2_with (first | (go_at_call 20; refine (worst_any _ (evenTo d c d.pts.length) _ _ _ HLN.out hl3).mono ?_; rintro e w4 ⟨rfl, hb⟩; rw [HW1.out]; have HB4 := Lib.hid (bto hW.out hb); clear hb) | (go_at_call 18; refine (works_any _).mono ?_; rintro e w5 ⟨rfl, hb⟩; have HB5 := Lib.hid (bto HB4.out hb); clear hb))
                go_ret
                exact ⟨rfl, HB5.out⟩
end Go.Proofs.Ytbddaemekgflmaa
