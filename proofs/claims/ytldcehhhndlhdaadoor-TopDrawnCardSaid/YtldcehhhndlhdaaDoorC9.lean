/- Walks: within, isWell; the same of the reference; Check of both; ask. -/
import Derived.Test.YtldcehhhndlhdaaDoorC8
import Derived.Test.YtldcehhhndlhdaaDoorC7
namespace Go.Proofs.YtldcehhhndlhdaaDoor
open Go.RowKit Go.Sort

set_option maxRecDepth 20000 in
set_option maxHeartbeats 400000 in
theorem within_any (n lo hi : Int) (w : World) :
    Calls Tryd.prog 82 #[I n, I lo, I hi] w fun e w' => e = .returned (.bool (inR n lo hi)) ∧ w = w' := by
  by_cases h1 : lo ≤ n
  · by_cases h2 : n ≤ hi
    · go_enter Tryd.func82, Tryd.ntmps82
      go_wp2
      go_ret
      exact ⟨by simp [inR, *], rfl⟩
    · go_enter Tryd.func82, Tryd.ntmps82
      go_wp2
      go_ret
      exact ⟨by simp [inR, *], rfl⟩
  · go_enter Tryd.func82, Tryd.ntmps82
    go_wp2
    go_ret
    exact ⟨by simp [inR]; omega, rfl⟩

set_option maxRecDepth 20000 in
set_option maxHeartbeats 400000 in
theorem rWithin_any (n lo hi : Int) (w : World) :
    Calls Tryd.prog 11 #[I n, I lo, I hi] w fun e w' => e = .returned (.bool (inR n lo hi)) ∧ w = w' := by
  by_cases h1 : lo ≤ n
  · by_cases h2 : n ≤ hi
    · go_enter Tryd.func11, Tryd.ntmps11
      go_wp2
      go_ret
      exact ⟨by simp [inR, *], rfl⟩
    · go_enter Tryd.func11, Tryd.ntmps11
      go_wp2
      go_ret
      exact ⟨by simp [inR, *], rfl⟩
  · go_enter Tryd.func11, Tryd.ntmps11
    go_wp2
    go_ret
    exact ⟨by simp [inR]; omega, rfl⟩

/-- isWell, at whatever number of wells. -/
def isWellW (W n : Int) : Bool := inR n 0 (wrap64 (W - 1))
theorem isWellW_eq {W n : Int} (h : 0 ≤ W) (h6 : W ≤ 1000) : isWellW W n = isWell W n := by unfold isWellW isWell; rw [IntWalk.wrap64_in _ (by omega)]
set_option maxRecDepth 20000 in
set_option maxHeartbeats 1000000 in
theorem isWellW_any (W n : Int) (sv pv : Value) (w : World) (hs : ∃ A m c, sv = .slice A m c) (hp : ∃ A m c, pv = .slice A m c) :
    Calls Tryd.prog 57 #[.agg #[I W, sv, pv], I n] w fun e w' => e = .returned (.bool (isWellW W n)) ∧ Below w.heap.size w w' := by
  obtain ⟨A, m, c, rfl⟩ := hs
  obtain ⟨A', m', c', rfl⟩ := hp
  go_enter Tryd.func57, Tryd.ntmps57
  go_wp2_with (go_at_call 82; refine (within_any _ _ _ _).mono ?_; rintro e w' ⟨rfl, rfl⟩)
  go_ret
  exact ⟨rfl, (Below.refl _ _).alloc (Nat.le_refl _) _⟩

set_option maxRecDepth 20000 in
set_option maxHeartbeats 1000000 in
theorem rIsWellW_any (W n : Int) (sv pv : Value) (w : World) (hs : ∃ A m c, sv = .slice A m c) (hp : ∃ A m c, pv = .slice A m c) :
    Calls Tryd.prog 33 #[.agg #[I W, sv, pv], I n] w fun e w' => e = .returned (.bool (isWellW W n)) ∧ Below w.heap.size w w' := by
  obtain ⟨A, m, c, rfl⟩ := hs
  obtain ⟨A', m', c', rfl⟩ := hp
  go_enter Tryd.func33, Tryd.ntmps33
  go_wp2_with (go_at_call 11; refine (rWithin_any _ _ _ _).mono ?_; rintro e w' ⟨rfl, rfl⟩)
  go_ret
  exact ⟨rfl, (Below.refl _ _).alloc (Nat.le_refl _) _⟩

set_option maxRecDepth 20000 in
set_option maxHeartbeats 1000000 in
theorem isWell_any (W n : Int) (sv pv : Value) (w : World) (h0 : 0 ≤ W) (h6 : W ≤ 1000) (hs : ∃ A m c, sv = .slice A m c) (hp : ∃ A m c, pv = .slice A m c) :
    Calls Tryd.prog 57 #[.agg #[I W, sv, pv], I n] w fun e w' => e = .returned (.bool (isWell W n)) ∧ Below w.heap.size w w' := by
  obtain ⟨A, m, c, rfl⟩ := hs
  obtain ⟨A', m', c', rfl⟩ := hp
  go_enter Tryd.func57, Tryd.ntmps57
  go_wp2_with (go_at_call 82; refine (within_any _ _ _ _).mono ?_; rintro e w' ⟨rfl, rfl⟩)
  go_ret
  exact ⟨rfl, (Below.refl _ _).alloc (Nat.le_refl _) _⟩

set_option maxRecDepth 20000 in
set_option maxHeartbeats 1000000 in
theorem rIsWell_any (W n : Int) (sv pv : Value) (w : World) (h0 : 0 ≤ W) (h6 : W ≤ 1000) (hs : ∃ A m c, sv = .slice A m c) (hp : ∃ A m c, pv = .slice A m c) :
    Calls Tryd.prog 33 #[.agg #[I W, sv, pv], I n] w fun e w' => e = .returned (.bool (isWell W n)) ∧ Below w.heap.size w w' := by
  obtain ⟨A, m, c, rfl⟩ := hs
  obtain ⟨A', m', c', rfl⟩ := hp
  go_enter Tryd.func33, Tryd.ntmps33
  go_wp2_with (go_at_call 11; refine (rWithin_any _ _ _ _).mono ?_; rintro e w' ⟨rfl, rfl⟩)
  go_ret
  exact ⟨rfl, (Below.refl _ _).alloc (Nat.le_refl _) _⟩

theorem chk_badSnd {t : Twn} (h : t.snd.any (badSnd t.wells) = true) : chk t = 10 := by simp only [chk]; rw [if_neg (by simp [valid, h])]
theorem chk_badSlp {t : Twn} (h : t.slp.any (badSlp t.wells) = true) : chk t = 10 := by simp only [chk]; rw [if_neg (by simp [valid, h])]
theorem any_snoc {α : Type} (p : α → Bool) (l : List α) (k : Nat) (h : k < l.length) : (l.take (k + 1)).any p = ((l.take k).any p || p l[k]) := by
  rw [List.take_succ_eq_append_getElem h, List.any_append]; simp
theorem any_mem {α : Type} (p : α → Bool) (l : List α) (k : Nat) (h : k < l.length) (hb : p l[k] = true) : l.any p = true := List.any_eq_true.2 ⟨_, List.getElem_mem h, hb⟩
set_option maxRecDepth 20000 in
set_option maxHeartbeats 8000000 in
theorem check_any (v : Value) (t : Twn) (w : World) (hv : TwnAt w v t) :
    Calls Tryd.prog 79 #[v] w fun e w' => e = .returned (I (chk t)) ∧ Below w.heap.size w w' := by
  obtain ⟨sv, pv, rfl, hs, hp⟩ := hv
  obtain ⟨A1, c1, rfl, hsl1, hsl2, hc1⟩ := hs.open_
  obtain ⟨A2, c2, rfl, hpl1, hpl2, hc2⟩ := hp.open_
  have HSN := Lib.hid hs
  have HSP := Lib.hid hp
  have HC1 := Lib.hid hc1
  have HC2 := Lib.hid hc2
  clear hc1 hc2 hs hp
  have S := Lib.hid (show St w (w.alloc (.cells #[I t.wells, .slice A1 t.snd.length c1, .slice A2 t.slp.length c2] 25)) (w.heap.size + 1) [.box w.heap.size [I t.wells, .slice A1 t.snd.length c1, .slice A2 t.slp.length c2]] from (St.init w).alloc [I t.wells, .slice A1 t.snd.length c1, .slice A2 t.slp.length c2] 25)
  have q0 := S.out.get 0 0 rfl rfl
  have q1 := S.out.get 0 1 rfl rfl
  have q2 := S.out.get 0 2 rfl rfl
  cases g1 : inR t.wells 0 6
  · have HE := Lib.hid (show chk t = 10 by simp [chk, valid, g1])
    go_enter Tryd.func79, Tryd.ntmps79
    go_wp2_with fail
    refine (within_any _ _ _ _).mono ?_
    rintro e w' ⟨rfl, rfl⟩
    rw [g1]
    go_wp2_with fail
    go_ret
    exact ⟨by rw [HE.out]; rfl, S.out.bel⟩
  · have hw0 := (inR_iff.1 g1).1
    have hw6 := (inR_iff.1 g1).2
    by_cases g2 : 8 < t.snd.length
    · have HE := Lib.hid (show chk t = 10 by simp [chk, valid]; omega)
      go_enter Tryd.func79, Tryd.ntmps79
      go_wp2_with fail
      refine (within_any _ _ _ _).mono ?_
      rintro e w' ⟨rfl, rfl⟩
      rw [g1]
      go_wp2_with fail
      go_ret
      exact ⟨by rw [HE.out]; rfl, S.out.bel⟩
    · by_cases g3 : 8 < t.slp.length
      · have HE := Lib.hid (show chk t = 10 by simp [chk, valid]; omega)
        go_enter Tryd.func79, Tryd.ntmps79
        go_wp2_with fail
        refine (within_any _ _ _ _).mono ?_
        rintro e w' ⟨rfl, rfl⟩
        rw [g1]
        go_wp2_with fail
        go_ret
        exact ⟨by rw [HE.out]; rfl, S.out.bel⟩
      · have hl1 : t.snd.length ≤ 8 := by omega
        have hl2 : t.slp.length ≤ 8 := by omega
        go_enter Tryd.func79, Tryd.ntmps79
        go_wp2_with fail
        refine (within_any _ _ _ _).mono ?_
        rintro e w' ⟨rfl, rfl⟩
        rw [g1]
        have G1 := Lib.hid g1
        have G2 := Lib.hid g2
        have G3 := Lib.hid g3
        clear g1
        go_wp2_with fail
        clear g2 g3
        go_loopw [26] (fun i wr => ∃ k : Nat, k ≤ t.snd.length ∧ i = I k ∧ Hid ((t.snd.take k).any (badSnd t.wells) = false) ∧ Hid (St w wr wr.heap.size [.box w.heap.size [I t.wells, .slice A1 t.snd.length c1, .slice A2 t.slp.length c2]])) (fun i _ => t.snd.length - (intOf i).toNat)
        case atStart => exact ⟨0, by omega, rfl, Lib.hid rfl, Lib.hid S.out.fix⟩
        case round =>
          clear q0 q1 q2 S
          obtain ⟨k, hk, rfl, HA, S⟩ := hrel
          by_cases hlt : k < t.snd.length
          · obtain ⟨b1, o1, rfl, hb1, hcell1⟩ := HC1.out (by omega)
            have hcell2 := hcell1 k hlt
            obtain ⟨x0, x1, x2⟩ := hcell2
            have x0 := keep_cell S.out.bel x0
            have x1 := keep_cell S.out.bel x1
            have x2 := keep_cell S.out.bel x2
            have hsn := any_snoc (badSnd t.wells) t.snd k hlt
            have hmem := any_mem (badSnd t.wells) t.snd k hlt
            clear hcell1
            obtain ⟨⟨sw, sl, sh⟩, hs⟩ : ∃ s, t.snd[k] = s := ⟨_, rfl⟩
            rw [hs] at x0 x1 x2 hsn hmem
            have HSN2 := Lib.hid hsn
            have HMEM := Lib.hid hmem
            clear hs hsn hmem
            dsimp only at x0 x1 x2
            have q0 := S.out.get 0 0 rfl rfl
            have q1 := S.out.get 0 1 rfl rfl
            have q2 := S.out.get 0 2 rfl rfl
            have hlt0 := S.out.lt 0 rfl
            go_wp2_with fail
            have S := Lib.hid (S.out.alloc [I sw, I sl, I sh] 31)
            clear hlt0 q0 q1 q2
            refine (isWell_any _ _ _ _ _ (by omega) (by omega) ⟨_, _, _, rfl⟩ ⟨_, _, _, rfl⟩).mono ?_
            rintro e w2 ⟨rfl, hb⟩
            have S := Lib.hid (S.out.call hb)
            clear hb 
            clear x0 x1 x2
            have p0 := S.out.get 0 0 rfl rfl
            have p1 := S.out.get 0 1 rfl rfl
            have p2 := S.out.get 0 2 rfl rfl
            have q0 := S.out.get 1 0 rfl rfl
            have q1 := S.out.get 1 1 rfl rfl
            have q2 := S.out.get 1 2 rfl rfl
            cases g10 : isWell t.wells sw
            · have hg10 := Lib.hid g10
              clear g10
              go_wp2_with fail
              have HE := Lib.hid (chk_badSnd  (HMEM.out (by simp [badSnd, hg10.out])))
              go_ret
              exact ⟨by rw [HE.out]; rfl, S.out.bel⟩
            · have hg10 := Lib.hid g10
              clear g10
              go_wp2_with fail
              refine (within_any _ _ _ _).mono ?_
              rintro e w2 ⟨rfl, rfl⟩
              cases g11 : inR sl 0 sh
              · have hg11 := Lib.hid g11
                clear g11
                go_wp2_with fail
                have HE := Lib.hid (chk_badSnd  (HMEM.out (by simp [badSnd, hg11.out])))
                go_ret
                exact ⟨by rw [HE.out]; rfl, S.out.bel⟩
              · have hg11 := Lib.hid g11
                clear g11
                by_cases g12 : 99 < sh
                · have hg12 := Lib.hid g12
                  go_wp2_with fail
                  have HE := Lib.hid (chk_badSnd  (HMEM.out (by simp [badSnd]; exact .inr hg12.out)))
                  go_ret
                  exact ⟨by rw [HE.out]; rfl, S.out.bel⟩
                · have hg12 := Lib.hid g12
                  go_wp2_with fail
                  go_roundw
                  case rel => exact ⟨k + 1, by omega, by go_num, Lib.hid (by rw [HSN2.out, HA.out]; simp only [Bool.false_or]; exact (by rw [badSnd_iff]; have a := isWell_iff.1 hg10.out; have b := inR_iff.1 hg11.out; have c := hg12.out; dsimp only; omega)), Lib.hid S.out.fix.tail⟩
                  case measure => first | (simp [intOf]; done) | (simp [intOf]; omega)
          · have HA1 := Lib.hid (show t.snd.any (badSnd t.wells) = false by have := HA.out; rw [List.take_of_length_le (by omega)] at this; exact this)
            have q0 := S.out.get 0 0 rfl rfl
            have q1 := S.out.get 0 1 rfl rfl
            have q2 := S.out.get 0 2 rfl rfl
            have hlt0 := S.out.lt 0 rfl
            go_wp2_with fail
            clear hlt0
            go_loopw [52] (fun i wr => ∃ k : Nat, k ≤ t.slp.length ∧ i = I k ∧ Hid ((t.slp.take k).any (badSlp t.wells) = false) ∧ Hid (St w wr wr.heap.size [.box w.heap.size [I t.wells, .slice A1 t.snd.length c1, .slice A2 t.slp.length c2]])) (fun i _ => t.slp.length - (intOf i).toNat)
            case atStart => exact ⟨0, by omega, rfl, Lib.hid rfl, Lib.hid S.out.fix⟩
            case round =>
              clear q0 q1 q2 S
              obtain ⟨k, hk, rfl, HA, S⟩ := hrel
              by_cases hlt : k < t.slp.length
              · obtain ⟨b1, o1, rfl, hb1, hcell1⟩ := HC2.out (by omega)
                have hcell2 := hcell1 k hlt
                obtain ⟨x0, x1, x2, x3⟩ := hcell2
                have x0 := keep_cell S.out.bel x0
                have x1 := keep_cell S.out.bel x1
                have x2 := keep_cell S.out.bel x2
                have x3 := keep_cell S.out.bel x3
                have hsn := any_snoc (badSlp t.wells) t.slp k hlt
                have hmem := any_mem (badSlp t.wells) t.slp k hlt
                clear hcell1
                obtain ⟨⟨sa, sb, sl, sh⟩, hs⟩ : ∃ s, t.slp[k] = s := ⟨_, rfl⟩
                rw [hs] at x0 x1 x2 x3 hsn hmem
                have HSN2 := Lib.hid hsn
                have HMEM := Lib.hid hmem
                clear hs hsn hmem
                dsimp only at x0 x1 x2 x3
                have q0 := S.out.get 0 0 rfl rfl
                have q1 := S.out.get 0 1 rfl rfl
                have q2 := S.out.get 0 2 rfl rfl
                have hlt0 := S.out.lt 0 rfl
                go_wp2_with fail
                have S := Lib.hid (S.out.alloc [I sa, I sb, I sl, I sh] 77)
                clear hlt0 q0 q1 q2
                refine (isWell_any _ _ _ _ _ (by omega) (by omega) ⟨_, _, _, rfl⟩ ⟨_, _, _, rfl⟩).mono ?_
                rintro e w2 ⟨rfl, hb⟩
                have S := Lib.hid (S.out.call hb)
                clear hb 
                clear x0 x1 x2 x3
                have p0 := S.out.get 0 0 rfl rfl
                have p1 := S.out.get 0 1 rfl rfl
                have p2 := S.out.get 0 2 rfl rfl
                have p3 := S.out.get 0 3 rfl rfl
                have q0 := S.out.get 1 0 rfl rfl
                have q1 := S.out.get 1 1 rfl rfl
                have q2 := S.out.get 1 2 rfl rfl
                cases g10 : isWell t.wells sa
                · have hg10 := Lib.hid g10
                  clear g10
                  go_wp2_with fail
                  have HE := Lib.hid (chk_badSlp  (HMEM.out (by simp [badSlp, hg10.out])))
                  go_ret
                  exact ⟨by rw [HE.out]; rfl, S.out.bel⟩
                · have hg10 := Lib.hid g10
                  clear g10
                  go_wp2_with fail
                  refine (isWell_any _ _ _ _ _ (by omega) (by omega) ⟨_, _, _, rfl⟩ ⟨_, _, _, rfl⟩).mono ?_
                  rintro e w2 ⟨rfl, hb⟩
                  have S := Lib.hid (S.out.call hb)
                  clear hb p0 p1 p2 p3 q0 q1 q2
                  have p0 := S.out.get 0 0 rfl rfl
                  have p1 := S.out.get 0 1 rfl rfl
                  have p2 := S.out.get 0 2 rfl rfl
                  have p3 := S.out.get 0 3 rfl rfl
                  have q0 := S.out.get 1 0 rfl rfl
                  have q1 := S.out.get 1 1 rfl rfl
                  have q2 := S.out.get 1 2 rfl rfl
                  cases g11 : isWell t.wells sb
                  · have hg11 := Lib.hid g11
                    clear g11
                    go_wp2_with fail
                    have HE := Lib.hid (chk_badSlp  (HMEM.out (by simp [badSlp, hg11.out])))
                    go_ret
                    exact ⟨by rw [HE.out]; rfl, S.out.bel⟩
                  · have hg11 := Lib.hid g11
                    clear g11
                    cases g12 : sa == sb
                    · have hg12 := Lib.hid g12
                      go_wp2_with fail
                      clear g12
                      refine (within_any _ _ _ _).mono ?_
                      rintro e w2 ⟨rfl, rfl⟩
                      cases g13 : inR sl (-99) sh
                      · have hg13 := Lib.hid g13
                        clear g13
                        go_wp2_with fail
                        have HE := Lib.hid (chk_badSlp  (HMEM.out (by simp [badSlp, hg13.out])))
                        go_ret
                        exact ⟨by rw [HE.out]; rfl, S.out.bel⟩
                      · have hg13 := Lib.hid g13
                        clear g13
                        by_cases g14 : 99 < sh
                        · have hg14 := Lib.hid g14
                          go_wp2_with fail
                          have HE := Lib.hid (chk_badSlp  (HMEM.out (by simp [badSlp]; exact .inr hg14.out)))
                          go_ret
                          exact ⟨by rw [HE.out]; rfl, S.out.bel⟩
                        · have hg14 := Lib.hid g14
                          go_wp2_with fail
                          go_roundw
                          case rel => exact ⟨k + 1, by omega, by go_num, Lib.hid (by rw [HSN2.out, HA.out]; simp only [Bool.false_or]; exact (by rw [badSlp_iff]; have a := isWell_iff.1 hg10.out; have b := isWell_iff.1 hg11.out; have c := beq_eq_false_iff_ne.1 hg12.out; have d := inR_iff.1 hg13.out; have e := hg14.out; dsimp only; omega)), Lib.hid S.out.fix.tail⟩
                          case measure => first | (simp [intOf]; done) | (simp [intOf]; omega)
                    · have hg12 := Lib.hid g12
                      go_wp2_with fail
                      have HE := Lib.hid (chk_badSlp  (HMEM.out (by simp [badSlp, beq_iff_eq.1 hg12.out])))
                      go_ret
                      exact ⟨by rw [HE.out]; rfl, S.out.bel⟩
              · have HA2 := Lib.hid (show t.slp.any (badSlp t.wells) = false by have := HA.out; rw [List.take_of_length_le (by omega)] at this; exact this)
                have HE := Lib.hid (show chk t = 0 by simp only [chk, valid, G1.out, HA1.out, HA2.out]; rw [if_pos (by simp; omega)])
                have q0 := S.out.get 0 0 rfl rfl
                have q1 := S.out.get 0 1 rfl rfl
                have q2 := S.out.get 0 2 rfl rfl
                go_wp2_with fail
                go_ret
                exact ⟨by rw [HE.out]; rfl, S.out.bel⟩

set_option maxRecDepth 20000 in
set_option maxHeartbeats 8000000 in
theorem rCheck_any (v : Value) (t : Twn) (w : World) (hv : TwnAt w v t) :
    Calls Tryd.prog 6 #[v] w fun e w' => e = .returned (I (chk t)) ∧ Below w.heap.size w w' := by
  obtain ⟨sv, pv, rfl, hs, hp⟩ := hv
  obtain ⟨A1, c1, rfl, hsl1, hsl2, hc1⟩ := hs.open_
  obtain ⟨A2, c2, rfl, hpl1, hpl2, hc2⟩ := hp.open_
  have HSN := Lib.hid hs
  have HSP := Lib.hid hp
  have HC1 := Lib.hid hc1
  have HC2 := Lib.hid hc2
  clear hc1 hc2 hs hp
  have S := Lib.hid (show St w (w.alloc (.cells #[I t.wells, .slice A1 t.snd.length c1, .slice A2 t.slp.length c2] 25)) (w.heap.size + 1) [.box w.heap.size [I t.wells, .slice A1 t.snd.length c1, .slice A2 t.slp.length c2]] from (St.init w).alloc [I t.wells, .slice A1 t.snd.length c1, .slice A2 t.slp.length c2] 25)
  have q0 := S.out.get 0 0 rfl rfl
  have q1 := S.out.get 0 1 rfl rfl
  have q2 := S.out.get 0 2 rfl rfl
  cases g1 : inR t.wells 0 6
  · have HE := Lib.hid (show chk t = 10 by simp [chk, valid, g1])
    go_enter Tryd.func6, Tryd.ntmps6
    go_wp2_with fail
    refine (rWithin_any _ _ _ _).mono ?_
    rintro e w' ⟨rfl, rfl⟩
    rw [g1]
    go_wp2_with fail
    go_ret
    exact ⟨by rw [HE.out]; rfl, S.out.bel⟩
  · have hw0 := (inR_iff.1 g1).1
    have hw6 := (inR_iff.1 g1).2
    by_cases g2 : 8 < t.snd.length
    · have HE := Lib.hid (show chk t = 10 by simp [chk, valid]; omega)
      go_enter Tryd.func6, Tryd.ntmps6
      go_wp2_with fail
      refine (rWithin_any _ _ _ _).mono ?_
      rintro e w' ⟨rfl, rfl⟩
      rw [g1]
      go_wp2_with fail
      go_ret
      exact ⟨by rw [HE.out]; rfl, S.out.bel⟩
    · by_cases g3 : 8 < t.slp.length
      · have HE := Lib.hid (show chk t = 10 by simp [chk, valid]; omega)
        go_enter Tryd.func6, Tryd.ntmps6
        go_wp2_with fail
        refine (rWithin_any _ _ _ _).mono ?_
        rintro e w' ⟨rfl, rfl⟩
        rw [g1]
        go_wp2_with fail
        go_ret
        exact ⟨by rw [HE.out]; rfl, S.out.bel⟩
      · have hl1 : t.snd.length ≤ 8 := by omega
        have hl2 : t.slp.length ≤ 8 := by omega
        go_enter Tryd.func6, Tryd.ntmps6
        go_wp2_with fail
        refine (rWithin_any _ _ _ _).mono ?_
        rintro e w' ⟨rfl, rfl⟩
        rw [g1]
        have G1 := Lib.hid g1
        have G2 := Lib.hid g2
        have G3 := Lib.hid g3
        clear g1
        go_wp2_with fail
        clear g2 g3
        go_loopw [3] (fun i wr => ∃ k : Nat, k ≤ t.snd.length ∧ i = I k ∧ Hid ((t.snd.take k).any (badSnd t.wells) = false) ∧ Hid (St w wr wr.heap.size [.box w.heap.size [I t.wells, .slice A1 t.snd.length c1, .slice A2 t.slp.length c2]])) (fun i _ => t.snd.length - (intOf i).toNat)
        case atStart => exact ⟨0, by omega, rfl, Lib.hid rfl, Lib.hid S.out.fix⟩
        case round =>
          clear q0 q1 q2 S
          obtain ⟨k, hk, rfl, HA, S⟩ := hrel
          by_cases hlt : k < t.snd.length
          · obtain ⟨b1, o1, rfl, hb1, hcell1⟩ := HC1.out (by omega)
            have hcell2 := hcell1 k hlt
            obtain ⟨x0, x1, x2⟩ := hcell2
            have x0 := keep_cell S.out.bel x0
            have x1 := keep_cell S.out.bel x1
            have x2 := keep_cell S.out.bel x2
            have hsn := any_snoc (badSnd t.wells) t.snd k hlt
            have hmem := any_mem (badSnd t.wells) t.snd k hlt
            clear hcell1
            obtain ⟨⟨sw, sl, sh⟩, hs⟩ : ∃ s, t.snd[k] = s := ⟨_, rfl⟩
            rw [hs] at x0 x1 x2 hsn hmem
            have HSN2 := Lib.hid hsn
            have HMEM := Lib.hid hmem
            clear hs hsn hmem
            dsimp only at x0 x1 x2
            have q0 := S.out.get 0 0 rfl rfl
            have q1 := S.out.get 0 1 rfl rfl
            have q2 := S.out.get 0 2 rfl rfl
            have hlt0 := S.out.lt 0 rfl
            go_wp2_with fail
            have S := Lib.hid (S.out.alloc [I sw, I sl, I sh] 31)
            clear hlt0 q0 q1 q2
            refine (rIsWell_any _ _ _ _ _ (by omega) (by omega) ⟨_, _, _, rfl⟩ ⟨_, _, _, rfl⟩).mono ?_
            rintro e w2 ⟨rfl, hb⟩
            have S := Lib.hid (S.out.call hb)
            clear hb 
            clear x0 x1 x2
            have p0 := S.out.get 0 0 rfl rfl
            have p1 := S.out.get 0 1 rfl rfl
            have p2 := S.out.get 0 2 rfl rfl
            have q0 := S.out.get 1 0 rfl rfl
            have q1 := S.out.get 1 1 rfl rfl
            have q2 := S.out.get 1 2 rfl rfl
            cases g10 : isWell t.wells sw
            · have hg10 := Lib.hid g10
              clear g10
              go_wp2_with fail
              have HE := Lib.hid (chk_badSnd  (HMEM.out (by simp [badSnd, hg10.out])))
              go_ret
              exact ⟨by rw [HE.out]; rfl, S.out.bel⟩
            · have hg10 := Lib.hid g10
              clear g10
              go_wp2_with fail
              refine (rWithin_any _ _ _ _).mono ?_
              rintro e w2 ⟨rfl, rfl⟩
              cases g11 : inR sh 0 99
              · have hg11 := Lib.hid g11
                clear g11
                go_wp2_with fail
                have HE := Lib.hid (chk_badSnd  (HMEM.out (by apply Classical.byContradiction; intro hc; have hc := badSnd_iff.1 (Bool.eq_false_iff.2 hc); have hn := inR_not.1 hg11.out; dsimp only at hc; omega)))
                go_ret
                exact ⟨by rw [HE.out]; rfl, S.out.bel⟩
              · have hg11 := Lib.hid g11
                clear g11
                go_wp2_with fail
                refine (rWithin_any _ _ _ _).mono ?_
                rintro e w2 ⟨rfl, rfl⟩
                cases g12 : inR sl 0 sh
                · have hg12 := Lib.hid g12
                  clear g12
                  go_wp2_with fail
                  have HE := Lib.hid (chk_badSnd  (HMEM.out (by simp [badSnd, hg12.out])))
                  go_ret
                  exact ⟨by rw [HE.out]; rfl, S.out.bel⟩
                · have hg12 := Lib.hid g12
                  clear g12
                  go_wp2_with fail
                  go_roundw
                  case rel => exact ⟨k + 1, by omega, by go_num, Lib.hid (by rw [HSN2.out, HA.out]; simp only [Bool.false_or]; exact (by rw [badSnd_iff]; have a := isWell_iff.1 hg10.out; have b := inR_iff.1 hg11.out; have c := inR_iff.1 hg12.out; dsimp only; omega)), Lib.hid S.out.fix.tail⟩
                  case measure => first | (simp [intOf]; done) | (simp [intOf]; omega)
          · have HA1 := Lib.hid (show t.snd.any (badSnd t.wells) = false by have := HA.out; rw [List.take_of_length_le (by omega)] at this; exact this)
            have q0 := S.out.get 0 0 rfl rfl
            have q1 := S.out.get 0 1 rfl rfl
            have q2 := S.out.get 0 2 rfl rfl
            have hlt0 := S.out.lt 0 rfl
            go_wp2_with fail
            clear hlt0
            go_loopw [5] (fun i wr => ∃ k : Nat, k ≤ t.slp.length ∧ i = I k ∧ Hid ((t.slp.take k).any (badSlp t.wells) = false) ∧ Hid (St w wr wr.heap.size [.box w.heap.size [I t.wells, .slice A1 t.snd.length c1, .slice A2 t.slp.length c2]])) (fun i _ => t.slp.length - (intOf i).toNat)
            case atStart => exact ⟨0, by omega, rfl, Lib.hid rfl, Lib.hid S.out.fix⟩
            case round =>
              clear q0 q1 q2 S
              obtain ⟨k, hk, rfl, HA, S⟩ := hrel
              by_cases hlt : k < t.slp.length
              · obtain ⟨b1, o1, rfl, hb1, hcell1⟩ := HC2.out (by omega)
                have hcell2 := hcell1 k hlt
                obtain ⟨x0, x1, x2, x3⟩ := hcell2
                have x0 := keep_cell S.out.bel x0
                have x1 := keep_cell S.out.bel x1
                have x2 := keep_cell S.out.bel x2
                have x3 := keep_cell S.out.bel x3
                have hsn := any_snoc (badSlp t.wells) t.slp k hlt
                have hmem := any_mem (badSlp t.wells) t.slp k hlt
                clear hcell1
                obtain ⟨⟨sa, sb, sl, sh⟩, hs⟩ : ∃ s, t.slp[k] = s := ⟨_, rfl⟩
                rw [hs] at x0 x1 x2 x3 hsn hmem
                have HSN2 := Lib.hid hsn
                have HMEM := Lib.hid hmem
                clear hs hsn hmem
                dsimp only at x0 x1 x2 x3
                have q0 := S.out.get 0 0 rfl rfl
                have q1 := S.out.get 0 1 rfl rfl
                have q2 := S.out.get 0 2 rfl rfl
                have hlt0 := S.out.lt 0 rfl
                go_wp2_with fail
                have S := Lib.hid (S.out.alloc [I sa, I sb, I sl, I sh] 77)
                clear hlt0 q0 q1 q2
                refine (rIsWell_any _ _ _ _ _ (by omega) (by omega) ⟨_, _, _, rfl⟩ ⟨_, _, _, rfl⟩).mono ?_
                rintro e w2 ⟨rfl, hb⟩
                have S := Lib.hid (S.out.call hb)
                clear hb 
                clear x0 x1 x2 x3
                have p0 := S.out.get 0 0 rfl rfl
                have p1 := S.out.get 0 1 rfl rfl
                have p2 := S.out.get 0 2 rfl rfl
                have p3 := S.out.get 0 3 rfl rfl
                have q0 := S.out.get 1 0 rfl rfl
                have q1 := S.out.get 1 1 rfl rfl
                have q2 := S.out.get 1 2 rfl rfl
                cases g10 : isWell t.wells sa
                · have hg10 := Lib.hid g10
                  clear g10
                  go_wp2_with fail
                  have HE := Lib.hid (chk_badSlp  (HMEM.out (by simp [badSlp, hg10.out])))
                  go_ret
                  exact ⟨by rw [HE.out]; rfl, S.out.bel⟩
                · have hg10 := Lib.hid g10
                  clear g10
                  go_wp2_with fail
                  refine (rIsWell_any _ _ _ _ _ (by omega) (by omega) ⟨_, _, _, rfl⟩ ⟨_, _, _, rfl⟩).mono ?_
                  rintro e w2 ⟨rfl, hb⟩
                  have S := Lib.hid (S.out.call hb)
                  clear hb p0 p1 p2 p3 q0 q1 q2
                  have p0 := S.out.get 0 0 rfl rfl
                  have p1 := S.out.get 0 1 rfl rfl
                  have p2 := S.out.get 0 2 rfl rfl
                  have p3 := S.out.get 0 3 rfl rfl
                  have q0 := S.out.get 1 0 rfl rfl
                  have q1 := S.out.get 1 1 rfl rfl
                  have q2 := S.out.get 1 2 rfl rfl
                  cases g11 : isWell t.wells sb
                  · have hg11 := Lib.hid g11
                    clear g11
                    go_wp2_with fail
                    have HE := Lib.hid (chk_badSlp  (HMEM.out (by simp [badSlp, hg11.out])))
                    go_ret
                    exact ⟨by rw [HE.out]; rfl, S.out.bel⟩
                  · have hg11 := Lib.hid g11
                    clear g11
                    cases g12 : sa == sb
                    · have hg12 := Lib.hid g12
                      go_wp2_with fail
                      clear g12
                      refine (rWithin_any _ _ _ _).mono ?_
                      rintro e w2 ⟨rfl, rfl⟩
                      cases g13 : inR sh (-99) 99
                      · have hg13 := Lib.hid g13
                        clear g13
                        go_wp2_with fail
                        have HE := Lib.hid (chk_badSlp  (HMEM.out (by apply Classical.byContradiction; intro hc; have hc := badSlp_iff.1 (Bool.eq_false_iff.2 hc); have hn := inR_not.1 hg13.out; dsimp only at hc; omega)))
                        go_ret
                        exact ⟨by rw [HE.out]; rfl, S.out.bel⟩
                      · have hg13 := Lib.hid g13
                        clear g13
                        go_wp2_with fail
                        refine (rWithin_any _ _ _ _).mono ?_
                        rintro e w2 ⟨rfl, rfl⟩
                        cases g14 : inR sl (-99) sh
                        · have hg14 := Lib.hid g14
                          clear g14
                          go_wp2_with fail
                          have HE := Lib.hid (chk_badSlp  (HMEM.out (by simp [badSlp, hg14.out])))
                          go_ret
                          exact ⟨by rw [HE.out]; rfl, S.out.bel⟩
                        · have hg14 := Lib.hid g14
                          clear g14
                          go_wp2_with fail
                          go_roundw
                          case rel => exact ⟨k + 1, by omega, by go_num, Lib.hid (by rw [HSN2.out, HA.out]; simp only [Bool.false_or]; exact (by rw [badSlp_iff]; have a := isWell_iff.1 hg10.out; have b := isWell_iff.1 hg11.out; have c := beq_eq_false_iff_ne.1 hg12.out; have d := inR_iff.1 hg13.out; have e := inR_iff.1 hg14.out; dsimp only; omega)), Lib.hid S.out.fix.tail⟩
                          case measure => first | (simp [intOf]; done) | (simp [intOf]; omega)
                    · have hg12 := Lib.hid g12
                      go_wp2_with fail
                      have HE := Lib.hid (chk_badSlp  (HMEM.out (by simp [badSlp, beq_iff_eq.1 hg12.out])))
                      go_ret
                      exact ⟨by rw [HE.out]; rfl, S.out.bel⟩
              · have HA2 := Lib.hid (show t.slp.any (badSlp t.wells) = false by have := HA.out; rw [List.take_of_length_le (by omega)] at this; exact this)
                have HE := Lib.hid (show chk t = 0 by simp only [chk, valid, G1.out, HA1.out, HA2.out]; rw [if_pos (by simp; omega)])
                have q0 := S.out.get 0 0 rfl rfl
                have q1 := S.out.get 0 1 rfl rfl
                have q2 := S.out.get 0 2 rfl rfl
                go_wp2_with fail
                go_ret
                exact ⟨by rw [HE.out]; rfl, S.out.bel⟩

end Go.Proofs.YtldcehhhndlhdaaDoor
/- Layer 1: some of the words of a town. No program here. -/
namespace Go.Proofs.YtldcehhhndlhdaaDoor
def subL {α : Type} (is : Nat → Bool) : Nat → List α → List α
  | _, [] => []
  | i, x :: l => if is i then x :: subL is (i + 1) l else subL is (i + 1) l
def sub (t : Twn) (is : Nat → Bool) : Twn := ⟨t.wells, subL is 0 t.snd, subL is t.snd.length t.slp⟩
theorem subL_all {α : Type} (is : Nat → Bool) (h : ∀ i, is i = true) : ∀ (i : Nat) (l : List α), subL is i l = l
  | _, [] => rfl
  | i, x :: l => by rw [subL, if_pos (h i), subL_all is h]
theorem sub_all (t : Twn) : sub t (fun _ => true) = t := by simp [sub, subL_all]
theorem subL_snoc {α : Type} (is : Nat → Bool) : ∀ (l : List α) (i k : Nat) (h : k < l.length), subL is i (l.take (k + 1)) = subL is i (l.take k) ++ (if is (i + k) then [l[k]] else [])
  | [], _, _, h => absurd h (by simp)
  | x :: l, i, 0, _ => by simp [subL]
  | x :: l, i, k + 1, h => by
    have := subL_snoc is l (i + 1) k (by simpa using h)
    rw [List.take_succ_cons, List.take_succ_cons, subL, subL, this, show i + 1 + k = i + (k + 1) by omega]
    split <;> simp
theorem subL_sublist {α : Type} (is : Nat → Bool) : ∀ (i : Nat) (l : List α), (subL is i l).Sublist l
  | _, [] => .slnil
  | i, x :: l => by
    rw [subL]
    split
    · exact (subL_sublist is (i + 1) l).cons_cons x
    · exact (subL_sublist is (i + 1) l).cons x
theorem Vl.sub {t : Twn} (h : Vl t) (is : Nat → Bool) : Vl (sub t is) := by
  have s1 := subL_sublist is 0 t.snd
  have s2 := subL_sublist is t.snd.length t.slp
  exact ⟨h.w0, h.w6, fun s hs => h.snd s (s1.subset hs), fun s hs => h.slp s (s2.subset hs)⟩
/-- The bounds while the words are taken in. -/
def sndTo (t : Twn) (is : Nat → Bool) (k : Nat) : List Int := (subL is 0 (t.snd.take k)).foldl soundM (rock t.wells)
def slpTo (t : Twn) (is : Nat → Bool) (k : Nat) : List Int := (subL is t.snd.length (t.slp.take k)).foldl slopeM (sndTo t is t.snd.length)
theorem sndTo_succ {t : Twn} (is : Nat → Bool) {k : Nat} (h : k < t.snd.length) : sndTo t is (k + 1) = if is k then soundM (sndTo t is k) t.snd[k] else sndTo t is k := by
  rw [sndTo, subL_snoc is t.snd 0 k h, Nat.zero_add]
  split <;> simp [sndTo, List.foldl_append]
theorem slpTo_succ {t : Twn} (is : Nat → Bool) {k : Nat} (h : k < t.slp.length) : slpTo t is (k + 1) = if is (t.snd.length + k) then slopeM (slpTo t is k) t.slp[k] else slpTo t is k := by
  rw [slpTo, subL_snoc is t.slp t.snd.length k h]
  split <;> simp [slpTo, List.foldl_append]
theorem slpTo_all (t : Twn) (is : Nat → Bool) : slpTo t is t.slp.length = baseM (sub t is) := by simp [slpTo, sndTo, baseM, sub]
theorem sndTo_len (t : Twn) (is : Nat → Bool) (k : Nat) : (sndTo t is k).length = 49 := by rw [sndTo, sounds_len, rock_len]
theorem slpTo_len (t : Twn) (is : Nat → Bool) (k : Nat) : (slpTo t is k).length = 49 := by rw [slpTo, slopes_len, sndTo_len]
end Go.Proofs.YtldcehhhndlhdaaDoor
