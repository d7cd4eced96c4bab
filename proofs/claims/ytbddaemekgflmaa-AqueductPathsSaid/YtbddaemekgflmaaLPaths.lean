/- AqueductPaths: the law walked. -/
import Derived.Test.YtbddaemekgflmaaRow
import Derived.Test.YtbddaemekgflmaaW44
import Derived.Test.YtbddaemekgflmaaW35
import Derived.Test.YtbddaemekgflmaaW22
namespace Go.Proofs.Ytbddaemekgflmaa
open Go.RowKit Go.Sort

theorem Ints.some_ {w : World} {A : Option Addr} {c : Nat} {xs : List Int} (h : Ints w (.slice A xs.length c) xs) (hn : 0 < xs.length) : ∃ b o, A = some ⟨b, o, none⟩ ∧ b < w.heap.size := by
  obtain ⟨A', c', e, h1, h2, h3⟩ := h.open_
  obtain ⟨rfl, -, rfl⟩ := slice_inj e
  obtain ⟨b, o, h4, h5, _⟩ := h3 hn
  exact ⟨b, o, h4, h5⟩
theorem Ints.at_ {w : World} {b o c : Nat} {xs : List Int} (h : Ints w (.slice (some ⟨b, o, none⟩) xs.length c) xs) (j : Nat) (hj : j < xs.length) : w.cell? ⟨b, o + j, none⟩ = some (I xs[j]) := by
  obtain ⟨A', c', e, h1, h2, h3⟩ := h.open_
  obtain ⟨rfl, -, rfl⟩ := slice_inj e
  obtain ⟨b', o', h4, h5, h6⟩ := h3 (by omega)
  injection h4 with h4
  injection h4 with e1 e2
  subst e1 e2
  exact h6 j hj
theorem Ints.take {w : World} {A : Option Addr} {c : Nat} {xs : List Int} (h : Ints w (.slice A xs.length c) xs) (k : Nat) (hk : k ≤ xs.length) : Ints w (.slice A k c) (xs.take k) := by
  obtain ⟨A', c', e, h1, h2, h3⟩ := h.open_
  obtain ⟨rfl, -, rfl⟩ := slice_inj e
  have hl : (xs.take k).length = k := by simp; omega
  refine ⟨by simp, A, c, by rw [hl], by omega, h2, fun hn => ?_⟩
  obtain ⟨b, o, rfl, _, hc⟩ := h3 (by omega)
  refine ⟨b, o, rfl, fun j u hu => ?_⟩
  rw [List.getElem?_map] at hu
  cases hj : (xs.take k)[j]? with
  | none => rw [hj] at hu; simp at hu
  | some z =>
    rw [hj] at hu
    simp only [Option.map_some, Option.some.injEq] at hu
    subst hu
    have hj1 := (List.getElem?_eq_some_iff.1 hj).1
    rw [List.getElem?_take] at hj
    split at hj
    · obtain ⟨h5, h6⟩ := List.getElem?_eq_some_iff.1 hj
      rw [hc j h5, h6]
    · cases hj

theorem rWithin_b (n lo hi : Int) (W : World) : Calls Try.prog 23 #[I n, I lo, I hi] W fun e w' => e = .returned (.bool (inR n lo hi)) ∧ Below W.heap.size W w' :=
  (rWithin_any n lo hi W).mono fun _ _ h => ⟨h.1, by rw [h.2]; exact Below.refl _ _⟩

set_option maxRecDepth 100000 in
set_option maxHeartbeats 8000000 in
theorem lawPaths_any (v : Value) (d : DLine) (s : Int) (w : World) (hv : LineAt w v d) :
    Calls Try.prog 13 #[v, I s] w fun e w' => e = .returned (.bool true) ∧ Below w.heap.size w w' := by
  have HV := Lib.hid hv
  obtain ⟨pv, ov, rfl, hp, ho⟩ := hv
  obtain ⟨Ao, co, rfl, _, _, _⟩ := id ho.open_
  have X := Box2.new w pv (.slice Ao d.odds.length co) 25
  have HB0 := Lib.hid (show Below w.heap.size w (w.alloc (.cells #[pv, .slice Ao d.odds.length co] 25)) from (Below.refl _ _).alloc (Nat.le_refl _) _)
  clear hp ho
  cases h1 : valid d
  · have H1 := Lib.hid h1
    clear h1
    go_enter Try.func13, Try.ntmps13
    go_wp2_with fail
    go_at_call 15
    refine (ready_any _ d _ (HV.out.below HB0.out)).mono ?_
    rintro e w1 ⟨rfl, hb⟩
    rw [H1.out]
    have HB1 := Lib.hid (bto HB0.out hb)
    have X := X.keep hb
    obtain ⟨x0, x1, x2, x3⟩ := id X
    have lX := X.lt
    clear hb HB0
    go_wp2_with fail
    go_at_call 18
    refine (works_any _).mono ?_
    rintro e w2 ⟨rfl, hb⟩
    have HBE := Lib.hid (bto HB1.out hb)
    clear hb
    go_wp2_with fail
    go_ret
    exact ⟨rfl, HBE.out⟩
  · have H1 := Lib.hid h1
    have HVD := Lib.hid h1
    obtain ⟨hn7, hnp, -⟩ := valid_spec h1
    have hl1 : d.odds.length ≤ 1000 := by omega
    have hl2 : d.pts.length ≤ 1000 := by omega
    have HNP := Lib.hid hnp
    clear hnp h1
    cases h2 : isSt d s
    · have H2 := Lib.hid h2
      clear h2
      go_enter Try.func13, Try.ntmps13
      go_wp2_with fail
      go_at_call 15
      refine (ready_any _ d _ (HV.out.below HB0.out)).mono ?_
      rintro e w1 ⟨rfl, hb⟩
      rw [H1.out]
      have HB1 := Lib.hid (bto HB0.out hb)
      have X := X.keep hb
      obtain ⟨x0, x1, x2, x3⟩ := id X
      have lX := X.lt
      clear hb HB0
      go_wp2_with fail
      go_at_call 48
      refine (rIsSt_any _ d _ _ (HV.out.below HB1.out) hl1).mono ?_
      rintro e w2 ⟨rfl, hb⟩
      rw [H2.out]
      have HB2 := Lib.hid (bto HB1.out hb)
      have X := X.keep hb
      obtain ⟨x0, x1, x2, x3⟩ := id X
      have lX := X.lt
      clear hb HB1
      go_wp2_with fail
      go_at_call 18
      refine (works_any _).mono ?_
      rintro e w3 ⟨rfl, hb⟩
      have HBE := Lib.hid (bto HB2.out hb)
      clear hb
      go_wp2_with fail
      go_ret
      exact ⟨rfl, HBE.out⟩
    · have H2 := Lib.hid h2
      obtain ⟨hs0, hs1⟩ := isSt_spec h2
      obtain ⟨s, rfl⟩ := Int.eq_ofNat_of_zero_le hs0
      have hsn : s < d.odds.length := by omega
      have hn0 : 0 < d.odds.length := by omega
      obtain ⟨most, hmo⟩ : ∃ m, worstN d 0 d.odds.length = m := ⟨_, rfl⟩
      have HRW := Lib.hid (show worstR d 0 d.odds.length = (most, 0) by rw [← hmo]; exact worstR_ok HVD.out 0 d.odds.length hn0 (Nat.le_refl _))
      have HPC := Lib.hid (show ∀ k, 0 ≤ pc d k ∧ pc d k ≤ most from fun k => ⟨(sumCost_bd HVD.out _).1, by rw [← hmo]; exact pc_le d k⟩)
      have HFN := Lib.hid (show ∀ k, fnd d (k + 1) = (fnd d k || decide (pc d k = most)) from fun k => by rw [fnd_succ, hmo])
      have HFA := Lib.hid (fnd_all d hn0)
      have HPR := Lib.hid (pathR_yes HVD.out s hsn)
      have HPD := Lib.hid (paidR_yes HVD.out s hsn)
      have hin := pathL_in d s d.odds.length 0 d.odds.length
      have hlen := pathL_len d s d.odds.length 0 d.odds.length
      have hnd := path_nodup d s d.odds.length 0 d.odds.length rfl
      have hpa := path_parts d s d.odds.length 0 d.odds.length rfl (Nat.zero_le _) hsn
      have hfst : 1 < d.odds.length → ∃ r, pathL d s d.odds.length 0 d.odds.length = (nextN d 0 d.odds.length : Int) :: r := fun h => ⟨_, pathL_step d s 0 d.odds.length h⟩
      have hnil : d.odds.length = 1 → pathL d s d.odds.length 0 d.odds.length = [] := fun h => pathL_one d s _ _ _ (by omega)
      have hsc : pc d s = sumCost d (pathL d s d.odds.length 0 d.odds.length) := rfl
      obtain ⟨l, hl⟩ : ∃ l, pathL d s d.odds.length 0 d.odds.length = l := ⟨_, rfl⟩
      simp only [Nat.sub_zero] at hpa hnd
      rw [hl] at hin hlen hnd hpa hfst hnil hsc
      rw [hl] at HPR
      have HIN := Lib.hid hin
      have HND := Lib.hid hnd
      have HPA := Lib.hid hpa
      have HFST := Lib.hid hfst
      have HNIL := Lib.hid hnil
      have HSC := Lib.hid hsc
      have hll : l.length ≤ d.odds.length := by omega
      have hl3 : l.length ≤ 1000 := by omega
      clear h2 hmo hin hnd hpa hfst hnil hl hsc hlen
      go_enter Try.func13, Try.ntmps13
      go_wp2_with fail
      go_at_call 15
      refine (ready_any _ d _ (HV.out.below HB0.out)).mono ?_
      rintro e w1 ⟨rfl, hb⟩
      rw [H1.out]
      have HB1 := Lib.hid (bto HB0.out hb)
      have X := X.keep hb
      obtain ⟨x0, x1, x2, x3⟩ := id X
      have lX := X.lt
      clear hb HB0
      go_wp2_with fail
      go_at_call 48
      refine (rIsSt_any _ d _ _ (HV.out.below HB1.out) hl1).mono ?_
      rintro e w2 ⟨rfl, hb⟩
      rw [H2.out]
      have HB2 := Lib.hid (bto HB1.out hb)
      have X := X.keep hb
      obtain ⟨x0, x1, x2, x3⟩ := id X
      have lX := X.lt
      clear hb HB1
      go_wp2_with fail
      go_at_call 20
      refine (worst_any _ d 0 d.odds.length _ (HV.out.below HB2.out) hl1).mono ?_
      rintro e w3 ⟨rfl, hb⟩
      rw [HRW.out]
      have HB3 := Lib.hid (bto HB2.out hb)
      have X := X.keep hb
      obtain ⟨x0, x1, x2, x3⟩ := id X
      have lX := X.lt
      clear hb HB2
      go_wp2_with fail
      go_loopw [7, 8] (fun fo i wr => ∃ (k : Nat) (b : Bool), k ≤ d.odds.length ∧ i = I k ∧ fo = .bool b ∧ Hid (b = fnd d k) ∧ Hid (Box2 wr w.heap.size pv (.slice Ao d.odds.length co)) ∧ Hid (Below w.heap.size w wr)) (fun _ i _ => d.odds.length - (intOf i).toNat)
      case atStart => exact ⟨0, false, by omega, rfl, rfl, Lib.hid rfl, Lib.hid X, HB3⟩
      case round =>
        clear X x0 x1 x2 x3 lX HB3
        obtain ⟨k, b, hk, rfl, rfl, hbf, HX, HW⟩ := hrel
        have X := HX.out
        obtain ⟨x0, x1, x2, x3⟩ := id X
        by_cases hlt : k < d.odds.length
        · obtain ⟨c, hc⟩ : ∃ c, pc d k = c := ⟨_, rfl⟩
          have hcb := HPC.out k
          rw [hc] at hcb
          obtain ⟨hc0, hc1⟩ := hcb
          have HRK := Lib.hid (show paidR d k = (c, 0) by rw [← hc]; exact paidR_yes HVD.out k hlt)
          have HFK := Lib.hid (show fnd d (k + 1) = (fnd d k || decide (c = most)) by rw [← hc]; exact HFN.out k)
          clear hc
          cases b
          · by_cases hcm : c = most
            · have hq : (c == most) = true := by simp [hcm]
              have HCM := Lib.hid hcm
              clear hcm
              go_wp2_with fail
              go_at_call 42
              refine (paid_any _ d _ _ (HV.out.below HW.out) hl1).mono ?_
              rintro e w4 ⟨rfl, hb⟩
              rw [HRK.out]
              have HB4 := Lib.hid (bto HW.out hb)
              have HX4 := Lib.hid (X.keep hb)
              clear hb
              go_wp2_with fail
              go_roundw
              case rel => exact ⟨k + 1, true, by omega, by go_num, rfl, Lib.hid (by rw [HFK.out, HCM.out]; simp), HX4, HB4⟩
              case measure => first | (simp [intOf]; done) | (simp [intOf]; omega)
            · have hq : (c == most) = false := by simp [hcm]
              have HCM := Lib.hid hcm
              clear hcm
              go_wp2_with fail
              go_at_call 42
              refine (paid_any _ d _ _ (HV.out.below HW.out) hl1).mono ?_
              rintro e w4 ⟨rfl, hb⟩
              rw [HRK.out]
              have HB4 := Lib.hid (bto HW.out hb)
              have HX4 := Lib.hid (X.keep hb)
              clear hb
              go_wp2_with fail
              go_roundw
              case rel => exact ⟨k + 1, false, by omega, by go_num, rfl, Lib.hid (by rw [HFK.out, ← hbf.out]; simp [HCM.out]), HX4, HB4⟩
              case measure => first | (simp [intOf]; done) | (simp [intOf]; omega)
          · skip
            go_wp2_with fail
            go_at_call 42
            refine (paid_any _ d _ _ (HV.out.below HW.out) hl1).mono ?_
            rintro e w4 ⟨rfl, hb⟩
            rw [HRK.out]
            have HB4 := Lib.hid (bto HW.out hb)
            have HX4 := Lib.hid (X.keep hb)
            clear hb
            go_wp2_with fail
            go_roundw
            case rel => exact ⟨k + 1, true, by omega, by go_num, rfl, Lib.hid (by rw [HFK.out, ← hbf.out]; rfl), HX4, HB4⟩
            case measure => first | (simp [intOf]; done) | (simp [intOf]; omega)
        · obtain rfl : k = d.odds.length := by omega
          obtain rfl : b = true := by rw [hbf.out]; exact HFA.out
          have HB3 := HW
          have lX := X.lt
          clear HX HW hbf
          rcases Nat.lt_or_ge 1 d.odds.length with hn1 | hn1
          · obtain ⟨r, hr0⟩ := HFST.out hn1
            obtain ⟨q, hq0⟩ : ∃ q : Int, q = (nextN d 0 d.odds.length : Int) := ⟨_, rfl⟩
            have HRN := Lib.hid (show nextR d 0 d.odds.length = (q, 0) by rw [hq0]; exact nextR_yes HVD.out hn1)
            have hr : l = q :: r := by rw [hq0]; exact hr0
            have hl0 : 0 < l.length := by rw [hr]; simp
            have HL0 := Lib.hid (show l[0] = q by simp [hr])
            clear hr hr0 hq0
            have HINB := Lib.hid (show ∀ x ∈ l, 0 ≤ x ∧ x < d.pts.length from fun x hx => by have := HIN.out x hx; have := HNP.out; omega)
            obtain ⟨c, hc⟩ : ∃ c, pc d s = c := ⟨_, rfl⟩
            rw [hc] at HPD HSC
            clear hc

            go_wp2_with fail
            go_at_call 40
            refine (path_any _ d _ _ (HV.out.below HB3.out) hl1).mono ?_
            rintro e w4 ⟨vl, rfl, hli, hb⟩
            rw [HPR.out] at hli
            rw [HPR.out]
            obtain ⟨Al, cl, rfl, hlc1, hlc2, hlc3⟩ := id hli.open_
            have HLC := Lib.hid hlc3
            have HLI := Lib.hid hli
            have HB4 := Lib.hid (bto HB3.out hb)
            have X := X.keep hb
            obtain ⟨x0, x1, x2, x3⟩ := id X
            have lX := X.lt
            clear hb HB3 hlc3 hli
            go_wp2_with fail
            go_at_call 42
            refine (paid_any _ d _ _ (HV.out.below HB4.out) hl1).mono ?_
            rintro e w5 ⟨rfl, hb⟩
            rw [HPD.out]
            have HLI := Lib.hid (HLI.out.below hb)
            have HB5 := Lib.hid (bto HB4.out hb)
            have X := X.keep hb
            obtain ⟨x0, x1, x2, x3⟩ := id X
            have lX := X.lt
            clear hb HB4 HLC
            go_wp2_with fail
            go_at_call 25
            refine (next_any _ d 0 d.odds.length _ (HV.out.below HB5.out) hl1).mono ?_
            rintro e w6 ⟨rfl, hb⟩
            rw [HRN.out]
            have HLI := Lib.hid (HLI.out.below hb)
            have HB6 := Lib.hid (bto HB5.out hb)
            have X := X.keep hb
            obtain ⟨x0, x1, x2, x3⟩ := id X
            have lX := X.lt
            obtain ⟨bb, oo, rfl, hbl⟩ := HLI.out.some_ hl0
            have y0 := HLI.out.at_ 0 hl0
            rw [HL0.out] at y0
            simp only [Nat.add_zero] at y0
            clear hb HB5
            go_wp2_with fail
            go_loopw [17] (fun i wr => ∃ j : Nat, j ≤ l.length ∧ i = I j ∧ Hid (Ints wr (.slice (some ⟨bb, oo, none⟩) l.length cl) l) ∧ Hid (Box2 wr w.heap.size pv (.slice Ao d.odds.length co)) ∧ Hid (Below w.heap.size w wr)) (fun i _ => l.length - (intOf i).toNat)
            case atStart => exact ⟨0, Nat.zero_le _, rfl, HLI, Lib.hid X, HB6⟩
            case round =>
              clear X x0 x1 x2 x3 lX HB6 HLI
              obtain ⟨j, hj, rfl, HLI, HX, HB7⟩ := hrel
              have X := HX.out
              obtain ⟨x0, x1, x2, x3⟩ := id X
              have lX := X.lt
              by_cases hjl : j < l.length
              · have y0 := HLI.out.at_ j hjl
                obtain ⟨x, hx⟩ : ∃ x, l[j] = x := ⟨_, rfl⟩
                have hxi := HIN.out x (by rw [← hx]; exact List.getElem_mem hjl)
                have HW1 := Lib.hid (show inR x 1 ((d.odds.length : Int) - 1) = true by simp [inR]; omega)
                have HW2 := Lib.hid (show (l.take j).contains x = false by
                  rw [Bool.eq_false_iff]
                  intro h
                  have h := List.contains_iff_mem.1 h
                  obtain ⟨i, hi1, hi2⟩ := List.mem_iff_getElem.1 h
                  have hi3 : i < j := by simp at hi1; omega
                  rw [List.getElem_take] at hi2
                  have := (List.getElem_inj HND.out).1 (show l[i] = l[j] by rw [hi2, hx])
                  omega)
                rw [hx] at y0
                have HTK := Lib.hid (HLI.out.take j (by omega))
                have htl : (l.take j).length ≤ 1000 := by simp; omega
                have e0 := cell_regrown y0
                have e1 := cell_regrown X.c1
                have i0 : IntKind.i64.wrap ((d.odds.length : Int) - 1) = (d.odds.length : Int) - 1 := IntWalk.i64_in _ (by omega)
                have c1 := ext_call (w := wr) fun W _ => rWithin_b x 1 ((d.odds.length : Int) - 1) W
                have c2 := ext_call (w := wr) fun W hW => in_any _ (l.take j) x W (HTK.out.below hW) htl
                rw [HW1.out] at c1
                rw [HW2.out] at c2
                have hji : (j : Int) < (l.length : Int) := by omega
                clear hx
                go_wp2_with fail
                refine wp_region_ext (by kernel_rfl) (by kernel_rfl) ?_
                repeat (first | go_big_quiet_step (first | (with_reducible exact c1 _ _) | (with_reducible exact c2 _ _)) | quiet_step (first | (with_reducible exact c1 _ _) | (with_reducible exact c2 _ _)))
                refine wpQuiet_nil ?_
                clear e0 e1 c1 c2 i0
                intro w7 hb
                have HLI7 := Lib.hid (HLI.out.below hb)
                have HX7 := Lib.hid (X.keep hb)
                have HB8 := Lib.hid (bto HB7.out hb)
                go_wp2_with fail
                go_roundw
                case rel => exact ⟨j + 1, by omega, by go_num, HLI7, HX7, HB8⟩
                case measure => first | (simp [intOf]; done) | (simp [intOf]; omega)
              · obtain rfl : j = l.length := by omega
                by_cases hz : s = 0
                · have hz' : ((s : Int) == 0) = true := by simp [hz]
                  have hz2 : ((s : Int) == (d.odds.length : Int) - 1) = false := by simp; omega
                  have HE2 := Lib.hid (show l.contains ((s : Int) + 1) = true from List.contains_iff_mem.2 (HPA.out.2.resolve_left (by omega)))
                  clear hz
                  go_wp2_with fail
                  go_at_call 54
                  refine (costOf_any _ _ d l _ (HV.out.below HB7.out) HLI.out HVD.out HINB.out hl3).mono ?_
                  rintro e w8 ⟨rfl, hb⟩
                  rw [← HSC.out]
                  have HLI := Lib.hid (HLI.out.below hb)
                  have HB8 := Lib.hid (bto HB7.out hb)
                  have X := X.keep hb
                  obtain ⟨x0, x1, x2, x3⟩ := id X
                  have lX := X.lt
                  clear hb HB7
                  go_wp2_with fail
                  go_at_call 53
                  refine (in_any _ l ((s : Int) + 1) _ HLI.out hl3).mono ?_
                  rintro e w9 ⟨rfl, hb⟩
                  rw [HE2.out]
                  have HLI := Lib.hid (HLI.out.below hb)
                  have HB9 := Lib.hid (bto HB8.out hb)
                  have X := X.keep hb
                  obtain ⟨x0, x1, x2, x3⟩ := id X
                  have lX := X.lt
                  clear hb HB8
                  go_wp2_with fail
                  go_at_call 18
                  refine (works_any _).mono ?_
                  rintro e w10 ⟨rfl, hb⟩
                  have HBE := Lib.hid (bto HB9.out hb)
                  clear hb
                  go_wp2_with fail
                  go_ret
                  exact ⟨rfl, HBE.out⟩
                · have hz' : ((s : Int) == 0) = false := by simp [hz]
                  have HE1 := Lib.hid (show l.contains (s : Int) = true from List.contains_iff_mem.2 (HPA.out.1.resolve_left (by omega)))
                  by_cases hy : s + 1 = d.odds.length
                  · have hz2 : ((s : Int) == (d.odds.length : Int) - 1) = true := by simp; omega
                    clear hz hy
                    go_wp2_with fail
                    go_at_call 54
                    refine (costOf_any _ _ d l _ (HV.out.below HB7.out) HLI.out HVD.out HINB.out hl3).mono ?_
                    rintro e w8 ⟨rfl, hb⟩
                    rw [← HSC.out]
                    have HLI := Lib.hid (HLI.out.below hb)
                    have HB8 := Lib.hid (bto HB7.out hb)
                    have X := X.keep hb
                    obtain ⟨x0, x1, x2, x3⟩ := id X
                    have lX := X.lt
                    clear hb HB7
                    go_wp2_with fail
                    go_at_call 53
                    refine (in_any _ l (s : Int) _ HLI.out hl3).mono ?_
                    rintro e w9 ⟨rfl, hb⟩
                    rw [HE1.out]
                    have HLI := Lib.hid (HLI.out.below hb)
                    have HB9 := Lib.hid (bto HB8.out hb)
                    have X := X.keep hb
                    obtain ⟨x0, x1, x2, x3⟩ := id X
                    have lX := X.lt
                    clear hb HB8
                    go_wp2_with fail
                    go_at_call 18
                    refine (works_any _).mono ?_
                    rintro e w10 ⟨rfl, hb⟩
                    have HBE := Lib.hid (bto HB9.out hb)
                    clear hb
                    go_wp2_with fail
                    go_ret
                    exact ⟨rfl, HBE.out⟩
                  · have hz2 : ((s : Int) == (d.odds.length : Int) - 1) = false := by simp; omega
                    have HE2 := Lib.hid (show l.contains ((s : Int) + 1) = true from List.contains_iff_mem.2 (HPA.out.2.resolve_left hy))
                    clear hz hy
                    go_wp2_with fail
                    go_at_call 54
                    refine (costOf_any _ _ d l _ (HV.out.below HB7.out) HLI.out HVD.out HINB.out hl3).mono ?_
                    rintro e w8 ⟨rfl, hb⟩
                    rw [← HSC.out]
                    have HLI := Lib.hid (HLI.out.below hb)
                    have HB8 := Lib.hid (bto HB7.out hb)
                    have X := X.keep hb
                    obtain ⟨x0, x1, x2, x3⟩ := id X
                    have lX := X.lt
                    clear hb HB7
                    go_wp2_with fail
                    go_at_call 53
                    refine (in_any _ l (s : Int) _ HLI.out hl3).mono ?_
                    rintro e w9 ⟨rfl, hb⟩
                    rw [HE1.out]
                    have HLI := Lib.hid (HLI.out.below hb)
                    have HB9 := Lib.hid (bto HB8.out hb)
                    have X := X.keep hb
                    obtain ⟨x0, x1, x2, x3⟩ := id X
                    have lX := X.lt
                    clear hb HB8
                    go_wp2_with fail
                    go_at_call 53
                    refine (in_any _ l ((s : Int) + 1) _ HLI.out hl3).mono ?_
                    rintro e w10 ⟨rfl, hb⟩
                    rw [HE2.out]
                    have HLI := Lib.hid (HLI.out.below hb)
                    have HB10 := Lib.hid (bto HB9.out hb)
                    have X := X.keep hb
                    obtain ⟨x0, x1, x2, x3⟩ := id X
                    have lX := X.lt
                    clear hb HB9
                    go_wp2_with fail
                    go_at_call 18
                    refine (works_any _).mono ?_
                    rintro e w11 ⟨rfl, hb⟩
                    have HBE := Lib.hid (bto HB10.out hb)
                    clear hb
                    go_wp2_with fail
                    go_ret
                    exact ⟨rfl, HBE.out⟩
          · have hn1' : d.odds.length = 1 := by omega
            have HRN := Lib.hid (nextR_one HVD.out hn1')
            have hll0 : l.length = 0 := by rw [HNIL.out hn1']; rfl
            have HN1 := Lib.hid hn1'
            have HL00 := Lib.hid hll0
            have hl0 : l.length ≤ 0 := by omega
            clear hn1' hll0
            have HINB := Lib.hid (show ∀ x ∈ l, 0 ≤ x ∧ x < d.pts.length from fun x hx => by have := HIN.out x hx; have := HNP.out; omega)
            obtain ⟨c, hc⟩ : ∃ c, pc d s = c := ⟨_, rfl⟩
            rw [hc] at HPD HSC
            clear hc

            go_wp2_with fail
            go_at_call 40
            refine (path_any _ d _ _ (HV.out.below HB3.out) hl1).mono ?_
            rintro e w4 ⟨vl, rfl, hli, hb⟩
            rw [HPR.out] at hli
            rw [HPR.out]
            obtain ⟨Al, cl, rfl, hlc1, hlc2, hlc3⟩ := id hli.open_
            have HLC := Lib.hid hlc3
            have HLI := Lib.hid hli
            have HB4 := Lib.hid (bto HB3.out hb)
            have X := X.keep hb
            obtain ⟨x0, x1, x2, x3⟩ := id X
            have lX := X.lt
            clear hb HB3 hlc3 hli
            go_wp2_with fail
            go_at_call 42
            refine (paid_any _ d _ _ (HV.out.below HB4.out) hl1).mono ?_
            rintro e w5 ⟨rfl, hb⟩
            rw [HPD.out]
            have HLI := Lib.hid (HLI.out.below hb)
            have HB5 := Lib.hid (bto HB4.out hb)
            have X := X.keep hb
            obtain ⟨x0, x1, x2, x3⟩ := id X
            have lX := X.lt
            clear hb HB4 HLC
            go_wp2_with fail
            go_at_call 25
            refine (next_any _ d 0 d.odds.length _ (HV.out.below HB5.out) hl1).mono ?_
            rintro e w6 ⟨rfl, hb⟩
            rw [HRN.out]
            have HLI := Lib.hid (HLI.out.below hb)
            have HB6 := Lib.hid (bto HB5.out hb)
            have X := X.keep hb
            obtain ⟨x0, x1, x2, x3⟩ := id X
            have lX := X.lt
            clear hb HB5
            go_wp2_with fail
            go_loopw [17] (fun i wr => ∃ j : Nat, j ≤ l.length ∧ i = I j ∧ Hid (Ints wr (.slice Al l.length cl) l) ∧ Hid (Box2 wr w.heap.size pv (.slice Ao d.odds.length co)) ∧ Hid (Below w.heap.size w wr)) (fun i _ => l.length - (intOf i).toNat)
            case atStart => exact ⟨0, Nat.zero_le _, rfl, HLI, Lib.hid X, HB6⟩
            case round =>
              clear X x0 x1 x2 x3 lX HB6 HLI
              obtain ⟨j, hj, rfl, HLI, HX, HB7⟩ := hrel
              have X := HX.out
              obtain ⟨x0, x1, x2, x3⟩ := id X
              have lX := X.lt
              by_cases hjl : j < l.length
              · exact absurd hjl (by omega)
              · obtain rfl : j = l.length := by omega
                have hs00 : s = 0 := by omega
                have hz' : ((s : Int) == 0) = true := by simp [hs00]
                have hz2 : ((s : Int) == (d.odds.length : Int) - 1) = true := by simp; omega
                clear hs00
                go_wp2_with fail
                go_at_call 54
                refine (costOf_any _ _ d l _ (HV.out.below HB7.out) HLI.out HVD.out HINB.out hl3).mono ?_
                rintro e w8 ⟨rfl, hb⟩
                rw [← HSC.out]
                have HLI := Lib.hid (HLI.out.below hb)
                have HB8 := Lib.hid (bto HB7.out hb)
                have X := X.keep hb
                obtain ⟨x0, x1, x2, x3⟩ := id X
                have lX := X.lt
                clear hb HB7
                go_wp2_with fail
                go_at_call 18
                refine (works_any _).mono ?_
                rintro e w9 ⟨rfl, hb⟩
                have HBE := Lib.hid (bto HB8.out hb)
                clear hb
                go_wp2_with fail
                go_ret
                exact ⟨rfl, HBE.out⟩
end Go.Proofs.Ytbddaemekgflmaa
