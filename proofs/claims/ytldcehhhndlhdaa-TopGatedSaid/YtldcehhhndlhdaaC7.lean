/- Walk of the reference's Check of a box. -/
import Derived.Test.YtldcehhhndlhdaaC6
import Derived.Test.YtldcehhhndlhdaaC4
namespace Go.Proofs.Ytldcehhhndlhdaa
open Go.RowKit Go.Sort

set_option maxRecDepth 20000 in
set_option maxHeartbeats 2000000 in
theorem rCheck7_any (v : Value) (b : MBox) (w : World) (hv : MBoxAt w v b) :
    Calls Try.prog 8 #[v] w fun e w' => e = .returned (I (chkM b)) ∧ Below w.heap.size w w' := by
  obtain ⟨sv, mv, rfl, hs, hm⟩ := hv
  obtain ⟨A1, c1, rfl, hs1, hs2, hsc⟩ := id hs.open_
  obtain ⟨A2, c2, rfl, hm1, hm2, hmc⟩ := id hm.open_
  have HS := Lib.hid hs
  have HM := Lib.hid hm
  have HSC := Lib.hid hsc
  have HMC := Lib.hid hmc
  clear hs hm hsc hmc
  have S := Lib.hid (show St w (w.alloc (.cells #[.slice A1 b.sh.length c1, .slice A2 b.mo.length c2] 27)) (w.heap.size + 1) [.box w.heap.size [.slice A1 b.sh.length c1, .slice A2 b.mo.length c2]] from (St.init w).alloc [.slice A1 b.sh.length c1, .slice A2 b.mo.length c2] 27)
  have q0 := S.out.get 0 0 rfl rfl
  have q1 := S.out.get 0 1 rfl rfl
  by_cases h1 : 5 < b.sh.length
  · have h1' : (5 : Int) < (b.sh.length : Int) := by omega
    have HE := Lib.hid (show chkM b = 70 by unfold chkM; rw [if_neg (fun e => by have := (mValid_iff.1 e).sl; omega)])
    go_enter Try.func8, Try.ntmps8
    go_wp2_with fail
    go_ret
    exact ⟨by rw [HE.out]; rfl, S.out.bel⟩
  · have h1' : ¬ (5 : Int) < (b.sh.length : Int) := by omega
    by_cases h2 : b.mo.length = b.sh.length
    · have h2' : ((b.mo.length : Int) != (b.sh.length : Int)) = false := by simp [h2]
      have H2 := Lib.hid h2
      have hl5 : b.sh.length ≤ 5 := by omega
      clear h2
      go_enter Try.func8, Try.ntmps8
      go_wp2_with fail
      clear q0 q1
      go_loopw [3] (fun i wr => ∃ k : Nat, k ≤ b.sh.length ∧ i = I k ∧ Hid (∀ j, j < k → badQ b j = false) ∧ Hid (St w wr wr.heap.size [.box w.heap.size [.slice A1 b.sh.length c1, .slice A2 b.mo.length c2]])) (fun i _ => b.sh.length - (intOf i).toNat)
      case atStart => exact ⟨0, by omega, rfl, Lib.hid (fun j h => absurd h (by omega)), Lib.hid S.out.fix⟩
      case round =>
        clear S
        obtain ⟨k, hk, rfl, HP, S⟩ := hrel
        have q0 := S.out.get 0 0 rfl rfl
        have q1 := S.out.get 0 1 rfl rfl
        by_cases hlt : k < b.sh.length
        · have hki : (k : Int) < (b.sh.length : Int) := by omega
          have hkm : k < b.mo.length := by have := H2.out; omega
          have hkmi : (k : Int) < (b.mo.length : Int) := by omega
          obtain ⟨b1, o1, rfl, hb1, hcl1⟩ := HSC.out (by omega)
          obtain ⟨b2, o2, rfl, hb2, hcl2⟩ := HMC.out (by omega)
          have y0 := keep_cell S.out.bel (hcl1 k hlt)
          have y1 := keep_cell S.out.bel (hcl2 k hkm)
          have es : mAt b.sh (k : Int) = b.sh[k] := by simp [mAt, List.getElem?_eq_getElem hlt]
          have em : mAt b.mo (k : Int) = b.mo[k] := by simp [mAt, List.getElem?_eq_getElem hkm]
          obtain ⟨s, hs⟩ : ∃ x, b.sh[k] = x := ⟨_, rfl⟩
          obtain ⟨m, hm⟩ : ∃ x, b.mo[k] = x := ⟨_, rfl⟩
          rw [hs] at y0 es
          rw [hm] at y1 em
          have HBQ := Lib.hid (show badQ b k = (!inM s 0 20 || !inM m 0 20) by unfold badQ; rw [es, em])
          clear es em hs hm hcl1 hcl2
          go_wp2_with fail
          refine (rWithin7_any _ _ _ _).mono ?_
          rintro e w1 ⟨rfl, rfl⟩
          cases h3 : inM s 0 20
          · have HE := Lib.hid (show chkM b = 70 by
              unfold chkM
              rw [mValid_bad hl5 H2.out, if_neg]
              intro e
              have := List.all_eq_true.1 e k (List.mem_range.2 hlt)
              rw [HBQ.out, h3] at this
              simp at this)
            clear h3
            go_wp2_with fail
            go_ret
            exact ⟨by rw [HE.out]; rfl, S.out.bel⟩
          · have H3 := Lib.hid h3
            clear h3
            go_wp2_with fail
            refine (rWithin7_any _ _ _ _).mono ?_
            rintro e w1 ⟨rfl, rfl⟩
            cases h4 : inM m 0 20
            · have HE := Lib.hid (show chkM b = 70 by
                unfold chkM
                rw [mValid_bad hl5 H2.out, if_neg]
                intro e
                have := List.all_eq_true.1 e k (List.mem_range.2 hlt)
                rw [HBQ.out, h4] at this
                simp at this)
              clear h4
              go_wp2_with fail
              go_ret
              exact ⟨by rw [HE.out]; rfl, S.out.bel⟩
            · have HN := Lib.hid (show badQ b k = false by rw [HBQ.out, H3.out, h4]; rfl)
              clear h4
              go_wp2_with fail
              try go_frame
              go_roundw
              case rel => exact ⟨k + 1, by omega, by go_num, Lib.hid (fun j h => by
                by_cases e : j = k
                · subst e; exact HN.out
                · exact HP.out j (by omega)), S⟩
              case measure => first | (simp [intOf]; done) | (simp [intOf]; omega)
        · obtain rfl : k = b.sh.length := by omega
          have HE := Lib.hid (show chkM b = 0 by
            unfold chkM
            rw [mValid_bad hl5 H2.out, if_pos]
            rw [List.all_eq_true]
            intro j hj
            rw [HP.out j (List.mem_range.1 hj)]
            rfl)
          go_wp2_with fail
          go_ret
          exact ⟨by rw [HE.out]; rfl, S.out.bel⟩
    · have h2' : ((b.mo.length : Int) != (b.sh.length : Int)) = true := by simp; omega
      have HE := Lib.hid (show chkM b = 70 by unfold chkM; rw [if_neg (fun e => h2 (mValid_iff.1 e).ml)])
      clear h2
      go_enter Try.func8, Try.ntmps8
      go_wp2_with fail
      go_ret
      exact ⟨by rw [HE.out]; rfl, S.out.bel⟩

end Go.Proofs.Ytldcehhhndlhdaa
/- Walks: mouths.are and what it calls. -/
namespace Go.Proofs.Ytldcehhhndlhdaa
open Go.RowKit Go.Sort

set_option maxRecDepth 20000 in
set_option maxHeartbeats 400000 in
theorem are1_any (n most : Int) (bx : Nat) (w : World) (hx : w.cell? ⟨bx, 0, none⟩ = some (I most)) :
    Calls Try.prog 104 #[I n, .pointer (some ⟨bx, 0, none⟩)] w fun e w' => e = .returned (.bool (!inM n 0 most)) ∧ w = w' := by
  go_enter Try.func104, Try.ntmps104
  go_wp2_with fail
  refine (mWithin_any _ _ _ _).mono ?_
  rintro e w' ⟨rfl, rfl⟩
  go_wp2_with fail
  go_ret
  exact ⟨rfl, rfl⟩

set_option maxRecDepth 20000 in
set_option maxHeartbeats 1000000 in
theorem indexM_no (v : Value) (xs : List Int) (most : Int) (bx : Nat) (w : World) (hr : Ints w v xs) (hx : w.cell? ⟨bx, 0, none⟩ = some (I most)) (hn : xs.any (fun x => !inM x 0 most) = false) :
    Calls Try.prog 113 #[v, .func (.func 104) #[] #[.pointer (some ⟨bx, 0, none⟩)]] w fun e w' => e = .returned (I (-1)) ∧ Below w.heap.size w w' := by
  obtain ⟨A, c, rfl, hnc, hcm, hc⟩ := hr.open_
  have HC := Lib.hid hc
  have HN := Lib.hid hn
  have HX := Lib.hid hx
  clear hc hn hr hx
  go_enter Try.func113, Try.ntmps113
  go_wp2_with fail
  go_loopw [8] (fun i wr => ∃ k : Nat, k ≤ xs.length ∧ i = I k ∧ Hid (Below w.heap.size w wr)) (fun i _ => xs.length - (intOf i).toNat)
  case atStart => exact ⟨0, by omega, rfl, Lib.hid (Below.refl _ _)⟩
  case round =>
    obtain ⟨k, hk, rfl, hbw⟩ := hrel
    by_cases hlt : k < xs.length
    · obtain ⟨b, o, rfl, hbl, hcell⟩ := HC.out (by omega)
      have y0 := keep_cell hbw.out (hcell k hlt)
      have hb : (!inM xs[k] 0 most) = false := by
        have := HN.out
        simp only [List.any_eq_false] at this
        simpa using this _ (List.getElem_mem hlt)
      obtain ⟨x, hx⟩ : ∃ x, xs[k] = x := ⟨_, rfl⟩
      rw [hx] at y0 hb
      have HB := Lib.hid hb
      clear hcell hx hb
      have hki : (k : Int) < (xs.length : Int) := by omega
      go_wp2_with fail
      refine (are1_any _ most bx _ (keep_cell hbw.out HX.out)).mono ?_
      rintro e w' ⟨rfl, rfl⟩
      rw [HB.out]
      go_wp2_with fail
      go_roundw
      case rel => exact ⟨k + 1, by omega, by go_num, hbw⟩
      case measure => first | (simp [intOf]; done) | (simp [intOf]; omega)
    · go_wp2_with fail
      go_ret
      exact ⟨rfl, hbw.out⟩

set_option maxRecDepth 20000 in
set_option maxHeartbeats 1000000 in
theorem indexM_yes (v : Value) (xs : List Int) (most : Int) (bx : Nat) (w : World) (hr : Ints w v xs) (hx : w.cell? ⟨bx, 0, none⟩ = some (I most)) (hn : xs.any (fun x => !inM x 0 most) = true) :
    Calls Try.prog 113 #[v, .func (.func 104) #[] #[.pointer (some ⟨bx, 0, none⟩)]] w fun e w' => RetNat w e w' := by
  obtain ⟨A, c, rfl, hnc, hcm, hc⟩ := hr.open_
  have HC := Lib.hid hc
  have HN := Lib.hid hn
  have HX := Lib.hid hx
  clear hc hn hr hx
  go_enter Try.func113, Try.ntmps113
  go_wp2_with fail
  go_loopw [8] (fun i wr => ∃ k : Nat, k ≤ xs.length ∧ i = I k ∧ (xs.drop k).any (fun x => !inM x 0 most) = true ∧ Hid (Below w.heap.size w wr)) (fun i _ => xs.length - (intOf i).toNat)
  case atStart => exact ⟨0, by omega, rfl, HN.out, Lib.hid (Below.refl _ _)⟩
  case round =>
    obtain ⟨k, hk, rfl, hd, hbw⟩ := hrel
    have hlt : k < xs.length := by
      apply Classical.byContradiction
      intro hge
      rw [List.drop_eq_nil_of_le (by omega)] at hd
      simp at hd
    rw [List.drop_eq_getElem_cons hlt, List.any_cons] at hd
    obtain ⟨b, o, rfl, hbl, hcell⟩ := HC.out (by omega)
    have y0 := keep_cell hbw.out (hcell k hlt)
    obtain ⟨x, hx⟩ : ∃ x, xs[k] = x := ⟨_, rfl⟩
    rw [hx] at y0 hd
    have HD := Lib.hid hd
    clear hcell hx hd
    have hki : (k : Int) < (xs.length : Int) := by omega
    go_wp2_with fail
    refine (are1_any _ most bx _ (keep_cell hbw.out HX.out)).mono ?_
    rintro e w' ⟨rfl, rfl⟩
    cases hb : inM x 0 most
    · go_wp2_with fail
      go_ret
      exact ⟨k, rfl, hbw.out⟩
    · have HB := Lib.hid hb
      clear hb
      go_wp2_with fail
      go_roundw
      case rel => exact ⟨k + 1, by omega, by go_num, by have := HD.out; simpa [HB.out] using this, hbw⟩
      case measure => first | (simp [intOf]; done) | (simp [intOf]; omega)

set_option maxRecDepth 20000 in
set_option maxHeartbeats 400000 in
theorem containsM_any (v : Value) (xs : List Int) (most : Int) (bx : Nat) (w : World) (hr : Ints w v xs) (hx : w.cell? ⟨bx, 0, none⟩ = some (I most)) :
    Calls Try.prog 103 #[v, .func (.func 104) #[] #[.pointer (some ⟨bx, 0, none⟩)]] w fun e w' => e = .returned (.bool (xs.any (fun x => !inM x 0 most))) ∧ Below w.heap.size w w' := by
  cases hb : xs.any (fun x => !inM x 0 most)
  · go_enter Try.func103, Try.ntmps103
    go_wp2_with fail
    refine (indexM_no _ _ _ _ _ hr hx hb).mono ?_
    rintro e w' ⟨rfl, hw⟩
    go_wp2_with fail
    go_ret
    exact ⟨rfl, hw⟩
  · go_enter Try.func103, Try.ntmps103
    go_wp2_with fail
    refine (indexM_yes _ _ _ _ _ hr hx hb).mono ?_
    rintro e w' ⟨k, rfl, hw⟩
    go_wp2_with fail
    go_ret
    exact ⟨rfl, hw⟩

end Go.Proofs.Ytldcehhhndlhdaa
/- Walks: mouths.are, Check, ask. -/
namespace Go.Proofs.Ytldcehhhndlhdaa
open Go.RowKit Go.Sort

def areB (most : Int) (xs : List Int) : Bool := !xs.any fun x => !inM x 0 most
def askM (b : MBox) (is : Bool) : Int := if mValid b then (if is then 0 else 1) else 70
theorem mValid_are {b : MBox} : mValid b = (decide (b.sh.length ≤ 5) && decide (b.mo.length = b.sh.length) && areB 20 b.sh && areB 20 b.mo) := by
  have h : ∀ xs : List Int, areB 20 xs = xs.all fun x => decide (0 ≤ x) && decide (x ≤ 20) := fun xs => by
    unfold areB inM
    rw [Bool.eq_iff_iff]
    simp
  unfold mValid
  rw [h, h]

set_option maxRecDepth 20000 in
set_option maxHeartbeats 1000000 in
theorem are_any (most : Int) (v : Value) (xs : List Int) (w : World) (hr : Ints w v xs) :
    Calls Try.prog 77 #[I most, v] w fun e w' => e = .returned (.bool (areB most xs)) ∧ Below w.heap.size w w' := by
  obtain ⟨A, c, rfl, h1, h2, -⟩ := id hr.open_
  have HR := Lib.hid hr
  clear hr
  have S := Lib.hid (show St w (w.alloc (.cells #[I most] 3)) (w.heap.size + 1) [.box w.heap.size [I most]] from (St.init w).alloc [I most] 3)
  go_enter Try.func77, Try.ntmps77
  go_wp2_with fail
  refine (containsM_any _ xs most _ _ (HR.out.below S.out.bel) (S.out.get 0 0 rfl rfl)).mono ?_
  rintro e w1 ⟨rfl, hb⟩
  have S := Lib.hid (S.out.call hb)
  clear hb
  go_wp2_with fail
  go_ret
  exact ⟨rfl, S.out.bel⟩

set_option maxRecDepth 20000 in
set_option maxHeartbeats 2000000 in
theorem mCheck_any (v : Value) (b : MBox) (w : World) (hv : MBoxAt w v b) :
    Calls Try.prog 56 #[v] w fun e w' => e = .returned (I (chkM b)) ∧ Below w.heap.size w w' := by
  obtain ⟨sv, mv, rfl, hs, hm⟩ := hv
  obtain ⟨A1, c1, rfl, hs1, hs2, hsc⟩ := id hs.open_
  obtain ⟨A2, c2, rfl, hm1, hm2, hmc⟩ := id hm.open_
  have HS := Lib.hid hs
  have HM := Lib.hid hm
  have HSC := Lib.hid hsc
  have HMC := Lib.hid hmc
  clear hs hm hsc hmc
  have S := Lib.hid (show St w (w.alloc (.cells #[.slice A1 b.sh.length c1, .slice A2 b.mo.length c2] 27)) (w.heap.size + 1) [.box w.heap.size [.slice A1 b.sh.length c1, .slice A2 b.mo.length c2]] from (St.init w).alloc [.slice A1 b.sh.length c1, .slice A2 b.mo.length c2] 27)
  have q0 := S.out.get 0 0 rfl rfl
  have q1 := S.out.get 0 1 rfl rfl
  by_cases h1 : 5 < b.sh.length
  · have h1' : (5 : Int) < (b.sh.length : Int) := by omega
    have HE := Lib.hid (show chkM b = 70 by unfold chkM; rw [if_neg (fun e => by have := (mValid_iff.1 e).sl; omega)])
    go_enter Try.func56, Try.ntmps56
    go_wp2_with fail
    go_ret
    exact ⟨by rw [HE.out]; rfl, S.out.bel⟩
  · have h1' : ¬ (5 : Int) < (b.sh.length : Int) := by omega
    by_cases h2 : b.mo.length = b.sh.length
    · have h2' : ((b.mo.length : Int) != (b.sh.length : Int)) = false := by simp [h2]
      have HV := Lib.hid (show mValid b = (areB 20 b.sh && areB 20 b.mo) by rw [mValid_are, decide_eq_true (show b.sh.length ≤ 5 by omega), decide_eq_true h2]; simp)
      clear h2
      go_enter Try.func56, Try.ntmps56
      go_wp2_with fail
      clear q0 q1
      refine (are_any _ _ b.sh _ (HS.out.below S.out.bel)).mono ?_
      rintro e w1 ⟨rfl, hb⟩
      have S := Lib.hid (S.out.call hb)
      clear hb
      have q0 := S.out.get 0 0 rfl rfl
      have q1 := S.out.get 0 1 rfl rfl
      cases ha : areB 20 b.sh
      · have HE := Lib.hid (show chkM b = 70 by unfold chkM; rw [HV.out, ha]; rfl)
        clear ha
        go_wp2_with fail
        go_ret
        exact ⟨by rw [HE.out]; rfl, S.out.bel⟩
      · have HA := Lib.hid ha
        clear ha
        go_wp2_with fail
        clear q0 q1
        refine (are_any _ _ b.mo _ (HM.out.below S.out.bel)).mono ?_
        rintro e w2 ⟨rfl, hb⟩
        have S := Lib.hid (S.out.call hb)
        clear hb
        cases hm : areB 20 b.mo
        · have HE := Lib.hid (show chkM b = 70 by unfold chkM; rw [HV.out, HA.out, hm]; rfl)
          clear hm
          go_wp2_with fail
          go_ret
          exact ⟨by rw [HE.out]; rfl, S.out.bel⟩
        · have HE := Lib.hid (show chkM b = 0 by unfold chkM; rw [HV.out, HA.out, hm]; rfl)
          clear hm
          go_wp2_with fail
          go_ret
          exact ⟨by rw [HE.out]; rfl, S.out.bel⟩
    · have h2' : ((b.mo.length : Int) != (b.sh.length : Int)) = true := by simp; omega
      have HE := Lib.hid (show chkM b = 70 by unfold chkM; rw [if_neg (fun e => h2 (mValid_iff.1 e).ml)])
      clear h2
      go_enter Try.func56, Try.ntmps56
      go_wp2_with fail
      go_ret
      exact ⟨by rw [HE.out]; rfl, S.out.bel⟩

set_option maxRecDepth 20000 in
set_option maxHeartbeats 2000000 in
theorem mAsk_any (v : Value) (b : MBox) (is : Bool) (w : World) (hv : MBoxAt w v b) :
    Calls Try.prog 36 #[v, .bool is] w fun e w' => e = .returned (I (askM b is)) ∧ Below w.heap.size w w' := by
  obtain ⟨sv, mv, rfl, hs, hm⟩ := hv
  obtain ⟨A1, c1, rfl, hs1, hs2, hsc⟩ := id hs.open_
  obtain ⟨A2, c2, rfl, hm1, hm2, hmc⟩ := id hm.open_
  have HS := Lib.hid hs
  have HM := Lib.hid hm
  have HSC := Lib.hid hsc
  have HMC := Lib.hid hmc
  clear hs hm hsc hmc
  have S := Lib.hid (show St w (w.alloc (.cells #[.slice A1 b.sh.length c1, .slice A2 b.mo.length c2] 27)) (w.heap.size + 1) [.box w.heap.size [.slice A1 b.sh.length c1, .slice A2 b.mo.length c2]] from (St.init w).alloc [.slice A1 b.sh.length c1, .slice A2 b.mo.length c2] 27)
  have q0 := S.out.get 0 0 rfl rfl
  have q1 := S.out.get 0 1 rfl rfl
  go_enter Try.func36, Try.ntmps36
  go_wp2_with fail
  clear q0 q1
  refine (mCheck_any _ b _ ⟨_, _, rfl, HS.out.below S.out.bel, HM.out.below S.out.bel⟩).mono ?_
  rintro e w1 ⟨rfl, hb⟩
  have S := Lib.hid (S.out.call hb)
  clear hb
  cases hvd : mValid b
  · rw [show chkM b = 70 by simp [chkM, hvd]]
    have HE := Lib.hid (show askM b is = 70 by simp [askM, hvd])
    clear hvd
    go_wp2_with fail
    go_ret
    exact ⟨by rw [HE.out]; rfl, S.out.bel⟩
  · rw [show chkM b = 0 by simp [chkM, hvd]]
    cases is
    · have HE := Lib.hid (show askM b false = 1 by simp [askM, hvd])
      clear hvd
      go_wp2_with fail
      go_ret
      exact ⟨by rw [HE.out]; rfl, S.out.bel⟩
    · have HE := Lib.hid (show askM b true = 0 by simp [askM, hvd])
      clear hvd
      go_wp2_with fail
      go_ret
      exact ⟨by rw [HE.out]; rfl, S.out.bel⟩

end Go.Proofs.Ytldcehhhndlhdaa
/- Walk of the example's boxes. -/
namespace Go.Proofs.Ytldcehhhndlhdaa
open Go.RowKit Go.Sort

/-- A box reads as a slice of all its cells. -/
theorem St.boxReads {w0 w : World} {n : Nat} {L : List Item} (h : St w0 w n L) (i : Nat) {b : Nat} {cs : List Value} (hi : L[i]? = some (.box b cs)) {size m : Nat} (hm : cs.length = m * size) (hl : m ≤ 1000) : Reads w size (.slice (some ⟨b, 0, none⟩) m m) m cs := by
  refine ⟨hm, _, _, rfl, Nat.le_refl _, by omega, fun _ => ⟨b, 0, rfl, fun j u hu => ?_⟩⟩
  rw [Nat.zero_add]
  exact h.get i j hi hu

set_option maxRecDepth 20000 in
set_option maxHeartbeats 2000000 in
theorem example7_any (w : World) :
    Calls Try.prog 29 #[] w fun e w' => ∃ v1 v2, e = .returned (.tuple #[v1, v2]) ∧ MBoxAt w' v1 ⟨[5, 3, 1], [9, 9, 9]⟩ ∧ MBoxAt w' v2 ⟨[5, 3, 1], [2, 1, 0]⟩ ∧ Below w.heap.size w w' := by
  have S := Lib.hid (((((((St.init w).alloc [.slice (some ⟨w.heap.size + 1 + 1, 0, none⟩) 3 3, .slice (some ⟨w.heap.size + 1 + 1 + 1, 0, none⟩) 3 3] 27).alloc [.slice (some ⟨w.heap.size + 1 + 1 + 1 + 1, 0, none⟩) 3 3, .slice (some ⟨w.heap.size + 1 + 1 + 1 + 1 + 1, 0, none⟩) 3 3] 27).alloc [I 5, I 3, I 1] 3).alloc [I 9, I 9, I 9] 3).alloc [I 5, I 3, I 1] 3).alloc [I 2, I 1, I 0] 3)
  have r0 := S.out.get 5 0 rfl rfl
  have r1 := S.out.get 5 1 rfl rfl
  have r2 := S.out.get 4 0 rfl rfl
  have r3 := S.out.get 4 1 rfl rfl
  go_enter Try.func29, Try.ntmps29
  go_wp2_with fail
  refine bodyPost_ret (v := .tuple #[.agg #[.slice (some ⟨w.heap.size + 1 + 1, 0, none⟩) 3 3, .slice (some ⟨w.heap.size + 1 + 1 + 1, 0, none⟩) 3 3], .agg #[.slice (some ⟨w.heap.size + 1 + 1 + 1 + 1, 0, none⟩) 3 3, .slice (some ⟨w.heap.size + 1 + 1 + 1 + 1 + 1, 0, none⟩) 3 3]]) (by simp [results, Try.results29, go_sem, r0, r1, r2, r3]) rfl ⟨_, _, rfl, ⟨_, _, rfl, S.out.boxReads 3 rfl rfl (by omega), S.out.boxReads 2 rfl rfl (by omega)⟩, ⟨_, _, rfl, S.out.boxReads 1 rfl rfl (by omega), S.out.boxReads 0 rfl rfl (by omega)⟩, S.out.bel⟩

end Go.Proofs.Ytldcehhhndlhdaa
/- TopGated: the plain law of the gate. No program here. -/
namespace Go.Proofs.Ytldcehhhndlhdaa
theorem gaugesM_len {b : MBox} (h : b.sh.length ≤ 5) (f : Nat) : (gaugesM b f).length = b.sh.length := by
  unfold gaugesM
  rw [List.length_take, hasM_len]
  omega
theorem gaugesM_at {b : MBox} (f : Nat) {j : Nat} (hj : j < b.sh.length) : mAt (gaugesM b f) (j : Int) = mAt (hasM b 5 f) (j : Int) := by
  unfold gaugesM mAt
  rw [List.getD_eq_getElem?_getD, List.getD_eq_getElem?_getD, Int.toNat_natCast, List.getElem?_take, if_pos hj]
/-- More flow: nobody has less. -/
theorem gaugesM_mono {b : MBox} {f g : Nat} (hfg : f ≤ g) {j : Nat} (hj : j < b.sh.length) : mAt (gaugesM b f) (j : Int) ≤ mAt (gaugesM b g) (j : Int) := by
  rw [gaugesM_at f hj, gaugesM_at g hj]
  exact hasM_mono b 5 hfg j
/-- What a quarter has of a flow within a span is within what it has of its ends; and of a narrower span within that. -/
theorem gated_said {b : MBox} {lo hi x lo' hi' : Nat} (h1 : lo ≤ x) (h2 : x ≤ hi) (h3 : lo ≤ lo') (h4 : hi' ≤ hi) {j : Nat} (hj : j < b.sh.length) :
    mAt (gaugesM b lo) j ≤ mAt (gaugesM b x) j ∧ mAt (gaugesM b x) j ≤ mAt (gaugesM b hi) j ∧ mAt (gaugesM b lo) j ≤ mAt (gaugesM b lo') j ∧ mAt (gaugesM b hi') j ≤ mAt (gaugesM b hi) j :=
  ⟨gaugesM_mono h1 hj, gaugesM_mono h2 hj, gaugesM_mono h3 hj, gaugesM_mono h4 hj⟩
end Go.Proofs.Ytldcehhhndlhdaa
