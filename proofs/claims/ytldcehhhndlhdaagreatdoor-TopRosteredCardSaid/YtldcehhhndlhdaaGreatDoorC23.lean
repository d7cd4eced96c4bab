/- The iterator over the steps: its contract. -/
import Derived.Test.YtldcehhhndlhdaaGreatDoorC20
import Derived.Test.YtldcehhhndlhdaaGreatDoorC21
import Derived.Test.YtldcehhhndlhdaaGreatDoorC22
import Derived.RangeFuncBox
import Derived.OwnWalkIn
import Derived.TacticsInMore
import Derived.LoopNIn
import Derived.LoopIn
namespace Go.Proofs.YtldcehhhndlhdaaGreatDoor
open Go.RowKit Go.Sort Go.Shelf
attribute [local go_sem] Oper.semAt_some

def townC (A1 A2 A3 A4 : Option Addr) (c1 c2 c3 c4 : Nat) (t : BTown) : List Value := [.slice A1 t.hs.length c1, .slice A2 t.ws.length c2, .slice A3 t.ys.length c3, I (-1), I (-1), I 0, .slice A4 t.ys.length c4]
/-- A town at work, with a division, and no wish. -/
def TownAt (w : World) (B : Nat) (t : BTown) (d : Nat → Int) : Prop := ∃ A1 A2 A3 A4 c1 c2 c3 c4, (∀ i v, (townC A1 A2 A3 A4 c1 c2 c3 c4 t)[i]? = some v → w.cell? ⟨B, i, none⟩ = some v) ∧ Ints w (.slice A1 t.hs.length c1) t.hs ∧ Ints w (.slice A2 t.ws.length c2) t.ws ∧ Sps w (.slice A3 t.ys.length c3) t.ys ∧ Ints w (.slice A4 t.ys.length c4) (Bk.rowF t.ys.length d)
theorem TownAt.below {w w' : World} {B : Nat} {t : BTown} {d : Nat → Int} (h : TownAt w B t d) (hb : Below w.heap.size w w') : TownAt w' B t d := by
  obtain ⟨A1, A2, A3, A4, c1, c2, c3, c4, h0, h1, h2, h3, h4⟩ := h
  exact ⟨A1, A2, A3, A4, c1, c2, c3, c4, fun i v hi => keep_cell hb (h0 i v hi), h1.below hb, h2.below hb, h3.below hb, h4.below hb⟩
def encA (a : Bk.Arc) : Array Value := #[.agg (arcCells a).toArray]
theorem Ints.cells {w : World} {A : Option Addr} {n c : Nat} {xs : List Int} (h : Ints w (.slice A n c) xs) : 0 < xs.length → ∃ b o, A = some ⟨b, o, none⟩ ∧ ∀ j (hj : j < xs.length), w.cell? ⟨b, o + j, none⟩ = some (I xs[j]) := by
  obtain ⟨_, _, e, -, -, hc⟩ := h.open_
  injection e with e1 e2 e3
  subst e1
  intro h0
  obtain ⟨b, o, h1, -, h2⟩ := hc h0
  exact ⟨b, o, h1, h2⟩
theorem Sps.cells {w : World} {A : Option Addr} {n c : Nat} {xs : List Sp} (h : Sps w (.slice A n c) xs) : 0 < xs.length → ∃ b o, A = some ⟨b, o, none⟩ ∧ ∀ j (hj : j < xs.length), w.cell? ⟨b, o + j * 2, none⟩ = some (I xs[j].low) ∧ w.cell? ⟨b, o + j * 2 + 1, none⟩ = some (I xs[j].high) := by
  obtain ⟨_, _, e, -, -, hc⟩ := h.open_
  injection e with e1 e2 e3
  subst e1
  intro h0
  obtain ⟨b, o, h1, -, h2⟩ := hc h0
  exact ⟨b, o, h1, h2⟩
/-- What a call that it made owns, and what it owned. -/
theorem St.join {w0 w w' : World} {n m : Nat} {L M : List Item} (h : St w0 w n L) (k : St w w' m M) : St w0 w' m (M ++ L) := by
  have hs := h.bel.size
  refine ⟨k.size, bto h.bel k.bel, fun x hx => ?_, ?_⟩
  · rcases List.mem_append.1 hx with hx | hx
    · have hok := k.ok x hx
      cases x with
      | box b cs => exact ⟨Nat.le_trans hs hok.1, hok.2⟩
      | own e size v m xs => exact own_base' hok hs
      | any b p => exact ⟨Nat.le_trans hs hok.1, hok.2⟩
    · exact (h.call k.bel).ok x hx
  · rw [List.filterMap_append]
    refine List.nodup_append.2 ⟨k.apart, h.apart, fun a ha b hb e => ?_⟩
    have h1 := (k.lt_of ha).1
    have h2 := (h.lt_of hb).2
    have := h.size
    omega
set_option maxRecDepth 20000 in
set_option maxHeartbeats 800000 in
theorem bonus0_any (is : Bool) (bt B : Nat) (w : World) (hp : w.cell? ⟨bt, 0, none⟩ = some (.pointer (some ⟨B, 0, none⟩))) (hs : w.cell? ⟨B, 5, none⟩ = some (I 0)) :
    Calls Tryz.prog 102 #[.bool is, .pointer (some ⟨bt, 0, none⟩)] w fun e w' => e = .returned (I 0) ∧ w' = w :=
  (bonus_any is bt B 0 w hp hs).mono fun e w' ⟨h1, h2⟩ => ⟨by rw [h1]; cases is <;> rfl, h2.symm⟩
theorem has_left {t : BTown} {d : Nat → Int} {k : Nat} (h : k < t.ws.length) : (leftTo t d t.ys.length).2[k]? = some (Bk.hasW t.bt d k) := by
  rw [rowGet (by rw [(leftTo_spec t d _).2.1]; exact h), (leftTo_end t d).2 k h]
theorem lack_left {t : BTown} {d : Nat → Int} {k : Nat} (h : k < t.hs.length) : (leftTo t d t.ys.length).1[k]? = some (Bk.lackH t.bt d k) := by
  rw [rowGet (by rw [(leftTo_spec t d _).1]; exact h), (leftTo_end t d).1 k h]

set_option maxRecDepth 100000 in
set_option maxHeartbeats 40000000 in
theorem arcs_in (l B B0 : Nat) (Ks : List Nat) (t : BTown) (d : Nat → Int) (hval : bVal t = true) (h12 : t.ys.length ≤ 12) (hd : Bk.Div t.bt d) (w0 : World) (hB0 : w0.heap.size = B0) (J Jx : List Bk.Arc → World → Prop) (W : World) (hbW : Below w0.heap.size w0 W) (hKW : ∀ k ∈ Ks, k < W.heap.size) (hJ : UpFrom W.heap.size J)
    (hY : ∀ pre x W1, J pre W1 → pre ++ [x] <+: Bk.arcsB t.bt d → YieldAt Fence.wide 3 Tryz.prog l (encA x) W1 fun e W' =>
      (e = .returned (.bool true) ∧ J (pre ++ [x]) W' ∧ KpX B0 Ks W1 W') ∨ (e = .returned (.bool false) ∧ Jx (pre ++ [x]) W'))
    (ht : TownAt w0 B t d) (h0 : J [] W) :
    CallsIn Fence.wide 4 Tryz.prog 96 #[.pointer (some ⟨B, 0, none⟩), .func (.yield l) #[] #[]] W fun e W' => (∃ v, e = .returned v) ∧
      ((∃ ys, ys = Bk.arcsB t.bt d ∧ J ys W') ∨ (∃ pre, True ∧ Jx pre W')) := by
  obtain ⟨A1, A2, A3, A4, c1, c2, c3, c4, hc, h1, h2, h3, h4⟩ := ht
  have HC := Lib.hid hc
  have HT := Lib.hid (show BAt w0 (.agg #[.slice A1 t.hs.length c1, .slice A2 t.ws.length c2, .slice A3 t.ys.length c3]) t from ⟨_, _, _, rfl, h1, h2, h3⟩)
  have HCW := Lib.hid h2.cells
  have HCH := Lib.hid h1.cells
  have HCY := Lib.hid h3.cells
  have HCD := Lib.hid h4.cells
  have HDV := Lib.hid h4
  have HJ := Lib.hid hJ
  have HY := Lib.hid hY
  have HV := Lib.hid hval
  have HD := Lib.hid hd
  have HSM := Lib.hid (BTown.bt_sm hval)
  have HB0 := Lib.hid hB0
  have HKW := Lib.hid hKW
  obtain ⟨g1, g2, -, -, -⟩ := bVal_spec hval
  refine callsIn_of_wp Tryz.func96 rfl trivial ?_ rfl
  simp only [Tryz.ntmps96, List.size_toArray, List.length_cons, List.length_nil, Nat.reduceAdd, Nat.reduceSub, Array.replicate_succ, Array.replicate_zero, List.push_toArray, List.append_toArray, List.nil_append, List.cons_append]
  have SW := Lib.hid (show St w0 W W.heap.size [] from ⟨rfl, hbW, by simp, by simp⟩)
  have S := Lib.hid (SW.out.alloc [.pointer (some ⟨B, 0, none⟩)] 117)
  have HJ0 := Lib.hid (show J [] (W.alloc (.cells #[.pointer (some ⟨B, 0, none⟩)] 117)) from HJ.out _ _ _ none h0 (grown_of_below ((Below.refl _ W).alloc (Nat.le_refl _) _) none) (by simp))
  clear hc h1 h2 h3 h4 hJ hY hval hd hB0 hKW hbW h0 SW
  gi_wp2_with (refine wpListIn_skip rfl rfl ?_; go_simp)
  refine wpIn_wide.2 ?_
  refine wp_region_seg [([0, 1, 2, 3, 4, 5, 6, 7], 8)] [9, 10, 11, 12, 13] [] 14 (by kernel_rfl) (by kernel_rfl) ?_
  intro KQ hKQ w1 hb
  have HJ0 := Lib.hid (HJ.out _ _ _ none HJ0.out (grown_of_below hb none) (by simp))
  have S := Lib.hid (S.out.call hb)
  have SB := Lib.hid (show Below W.heap.size W w1 from bto ((Below.refl _ _).alloc (Nat.le_refl _) _) hb)
  clear hb
  have q0 := cell_regrown (S.out.get 0 0 rfl rfl)
  have z0 := cell_regrown (keep_cell S.out.bel (HC.out 0 _ rfl))
  have z1 := cell_regrown (keep_cell S.out.bel (HC.out 1 _ rfl))
  have z2 := cell_regrown (keep_cell S.out.bel (HC.out 2 _ rfl))
  have z6 := cell_regrown (keep_cell S.out.bel (HC.out 6 _ rfl))
  refine seg_next ?_
  simp only [opsAt, List.filterMap_cons, List.filterMap_nil, List.getElem?_toArray, List.getElem?_cons_succ, List.getElem?_cons_zero]
  repeat (first | go_big_quiet_step (fail) | quiet_step (fail))
  refine wpQuiet_nil ?_
  intro K hK
  refine loud_op rfl rfl ?_
  go_simp
  refine (left_any _ _ t d _ (HT.out.below S.out.bel) HV.out h12 (fun i hi => Bk.div_small HSM.out HD.out hi) (HDV.out.below S.out.bel)).mono ?_
  rintro e w3 ⟨v1, v2, rfl, SL⟩
  have HJ0 := Lib.hid (HJ.out _ _ _ none HJ0.out (grown_of_below SL.bel none) (by simp))
  refine hK _ _ SL.bel ?_
  have S := Lib.hid (S.out.join SL)
  obtain ⟨B1, k1, rfl⟩ := own_shape (SL.own 0 rfl)
  obtain ⟨B2, k2, rfl⟩ := own_shape (SL.own 1 rfl)
  have SL0 := Lib.hid SL
  clear hK K SL q0 z0 z1 z2 z6
  refine seg_last ?_
  simp only [opsAt, List.filterMap_cons, List.filterMap_nil, List.getElem?_toArray, List.getElem?_cons_succ, List.getElem?_cons_zero]
  repeat (first | go_big_quiet_step (fail) | quiet_step (fail))
  refine wpQuiet_nil ?_
  go_simp
  refine hKQ _ _ ?_
  clear hKQ KQ
  have S := Lib.hid (show St w0 w3 w3.heap.size [.own 3 1 (.slice B1 t.hs.length k1) t.hs.length ((leftTo t d t.ys.length).1.map I), .own 3 1 (.slice B2 t.ws.length k2) t.ws.length ((leftTo t d t.ys.length).2.map I), .box W.heap.size [.pointer (some ⟨B, 0, none⟩)]] from S.out)
  have HDIS := Lib.hid (show ∀ x ∈ ([.own 3 1 (.slice B1 t.hs.length k1) t.hs.length ((leftTo t d t.ys.length).1.map I), .own 3 1 (.slice B2 t.ws.length k2) t.ws.length ((leftTo t d t.ys.length).2.map I), .box W.heap.size [.pointer (some ⟨B, 0, none⟩)]] : List Item), ∀ b, x.blk = some b → b ∉ Ks from by
    intro x hx b hb hm
    have hkw := HKW.out b hm
    have hs0 := fun (c : Nat) (hc : c ∈ List.filterMap Item.blk _) => (SL0.out.lt_of hc).1
    simp only [List.mem_cons, List.not_mem_nil, or_false] at hx
    rcases hx with rfl | rfl | rfl
    · have := hs0 b (by simp only [List.filterMap_cons, hb]; simp)
      have := SB.out.size
      omega
    · have := hs0 b (by simp only [List.filterMap_cons, hb]; split <;> simp)
      have := SB.out.size
      omega
    · injection hb with hb
      omega)
  clear SL0 SB
  have x0 := keep_cell S.out.bel (HC.out 0 _ rfl)
  have x1 := keep_cell S.out.bel (HC.out 1 _ rfl)
  have x2 := keep_cell S.out.bel (HC.out 2 _ rfl)
  have x3 := keep_cell S.out.bel (HC.out 3 _ rfl)
  have x4 := keep_cell S.out.bel (HC.out 4 _ rfl)
  have x5 := keep_cell S.out.bel (HC.out 5 _ rfl)
  have q0 := S.out.get 2 0 rfl rfl
  gi_wp2_with (refine wpListIn_skip rfl rfl ?_; go_simp)
  gi_loopw [47] (fun i wr => ∃ k : Nat, k ≤ t.ws.length ∧ i = I k ∧ Hid (J (Bk.preW t.bt d k) wr) ∧ Hid (St w0 wr wr.heap.size [.own 3 1 (.slice B1 t.hs.length k1) t.hs.length ((leftTo t d t.ys.length).1.map I), .own 3 1 (.slice B2 t.ws.length k2) t.ws.length ((leftTo t d t.ys.length).2.map I), .box W.heap.size [.pointer (some ⟨B, 0, none⟩)]])) (fun i _ => t.ws.length - (intOf i).toNat)
  case atStart => exact ⟨0, by omega, rfl, HJ0, S⟩
  case round =>
    clear S x0 x1 x2 x3 x4 x5 q0 HJ0
    obtain ⟨k, hk, rfl, hJs, S⟩ := hrel
    by_cases hlt : k < t.ws.length
    · have hki : (k : Int) < (t.ws.length : Int) := by omega
      have HN := Lib.hid (has_left (d := d) hlt)
      have hbd := Bk.div_le' HD.out (w := k)
      have hn0 := HD.out.has k hlt
      have HPRE := Lib.hid (show Bk.preW t.bt d k ++ Bk.arcsW t.bt d k <+: Bk.arcsB t.bt d by rw [← Bk.preW_succ]; exact Bk.preW_le t.bt d (i := k + 1) hlt)
      have HE := Lib.hid (Bk.preW_succ t.bt d k)
      obtain ⟨bw, ow, hA2, hcw⟩ := HCW.out (by omega)
      subst hA2
      have HCK := Lib.hid (hcw k hlt)
      clear hcw
      have hwk : t.bt.ws k = t.ws[k] := by show t.ws.getD k 0 = _; rw [List.getD_eq_getElem?_getD, List.getElem?_eq_getElem hlt, Option.getD_some]
      have HAW := Lib.hid (show Bk.arcsW t.bt d k = (if 0 < Bk.hasW t.bt d k then [⟨t.ws.length + t.hs.length, k, 0, -1, 0⟩] else []) ++ (if Bk.hasW t.bt d k < t.bt.ws k then [⟨k, t.ws.length + t.hs.length, 0, -1, 0⟩] else []) from rfl)
      rw [hwk] at hbd HAW
      obtain ⟨gw, hgw⟩ := own_some (S.out.own 1 rfl) (by omega)
      subst hgw
      obtain ⟨n, hn⟩ : ∃ x, Bk.hasW t.bt d k = x := ⟨_, rfl⟩
      obtain ⟨wk, hwk2⟩ : ∃ x, t.ws[k] = x := ⟨_, rfl⟩
      rw [hn] at HN hbd hn0 HAW
      rw [hwk2] at hbd HAW HCK
      clear hwk hn hwk2
      have x0 := keep_cell S.out.bel (HC.out 0 _ rfl)
      have x1 := keep_cell S.out.bel (HC.out 1 _ rfl)
      have x2 := keep_cell S.out.bel (HC.out 2 _ rfl)
      have x3 := keep_cell S.out.bel (HC.out 3 _ rfl)
      have x4 := keep_cell S.out.bel (HC.out 4 _ rfl)
      have x5 := keep_cell S.out.bel (HC.out 5 _ rfl)
      have q0 := S.out.get 2 0 rfl rfl
      have y0 := keep_cell S.out.bel HCK.out
      have y1 := own_cell (S.out.own 1 rfl) k _ HN.out
      by_cases hp : 0 < n
      · by_cases hq : n < wk
        · have HA := Lib.hid (show Bk.arcsW t.bt d k = [⟨t.ws.length + t.hs.length, k, 0, -1, 0⟩, ⟨k, t.ws.length + t.hs.length, 0, -1, 0⟩] by rw [HAW.out, if_pos hp, if_pos hq]; rfl)
          gi_wp2_with (refine wpListIn_skip rfl rfl ?_; go_simp)
          refine ⟨trivial, callsIn_wide.2 ?_⟩
          refine (bonus0_any _ _ B _ q0 x5).mono ?_
          rintro e w5 ⟨rfl, rfl⟩
          obtain ⟨fn, tmps, assign, body, hy, hR⟩ := HY.out _ ⟨t.ws.length + t.hs.length, k, 0, -1, 0⟩ _ hJs.out (Bk.pre_one HPRE.out HA.out)
          dsimp only [encA, arcCells] at hy
          simp only [Int.natCast_add] at hy
          gi_wp2_with (refine wpListIn_skip rfl rfl ?_; go_simp)
          refine hR.mono ?_
          rintro e W3 (⟨rfl, hJ3, hk3⟩ | ⟨rfl, hJx3⟩)
          · have S := Lib.hid (S.out.kpX (by rw [HB0.out]; exact hk3) (by simp [Item.cel]) (HDIS.out))
            clear hk3 hy hR 
            clear x0 x1 x2 x3 x4 x5 q0 y0 y1
            have x0 := keep_cell S.out.bel (HC.out 0 _ rfl)
            have x1 := keep_cell S.out.bel (HC.out 1 _ rfl)
            have x2 := keep_cell S.out.bel (HC.out 2 _ rfl)
            have x3 := keep_cell S.out.bel (HC.out 3 _ rfl)
            have x4 := keep_cell S.out.bel (HC.out 4 _ rfl)
            have x5 := keep_cell S.out.bel (HC.out 5 _ rfl)
            have q0 := S.out.get 2 0 rfl rfl
            have y0 := keep_cell S.out.bel HCK.out
            have y1 := own_cell (S.out.own 1 rfl) k _ HN.out
            gi_wp2_with (refine wpListIn_skip rfl rfl ?_; go_simp)
            refine ⟨trivial, callsIn_wide.2 ?_⟩
            refine (bonus0_any _ _ B _ q0 x5).mono ?_
            rintro e w5 ⟨rfl, rfl⟩
            obtain ⟨fn, tmps, assign, body, hy, hR⟩ := HY.out _ ⟨k, t.ws.length + t.hs.length, 0, -1, 0⟩ _ hJ3 (Bk.pre_two (HPRE.out) HA.out)
            dsimp only [encA, arcCells] at hy
            simp only [Int.natCast_add] at hy
            gi_wp2_with (refine wpListIn_skip rfl rfl ?_; go_simp)
            refine hR.mono ?_
            rintro e W3 (⟨rfl, hJ3, hk3⟩ | ⟨rfl, hJx3⟩)
            · have S := Lib.hid (S.out.kpX (by rw [HB0.out]; exact hk3) (by simp [Item.cel]) (HDIS.out))
              clear hk3 hy hR 
              gi_wp2_with (refine wpListIn_skip rfl rfl ?_; go_simp)
              go_roundw
              case rel => exact ⟨k + 1, by omega, by go_num, Lib.hid (by rw [HE.out, HA.out]; have := hJ3; simpa [List.append_assoc] using this), S⟩
              case measure => first | (simp [intOf]; done) | (simp [intOf]; omega)

            · clear hy hR
              gi_wp2_with (refine wpListIn_skip rfl rfl ?_; go_simp)
              refine bodyPost_ret (results_none rfl _ _ _) rfl ?_
              first
                | exact ⟨⟨_, rfl⟩, .inr ⟨_, trivial, hJx3⟩⟩
                | exact ⟨⟨_, rfl⟩, .inr ⟨_, hJx3⟩⟩

          · clear hy hR
            gi_wp2_with (refine wpListIn_skip rfl rfl ?_; go_simp)
            refine bodyPost_ret (results_none rfl _ _ _) rfl ?_
            first
              | exact ⟨⟨_, rfl⟩, .inr ⟨_, trivial, hJx3⟩⟩
              | exact ⟨⟨_, rfl⟩, .inr ⟨_, hJx3⟩⟩
        · have HA := Lib.hid (show Bk.arcsW t.bt d k = [⟨t.ws.length + t.hs.length, k, 0, -1, 0⟩] by rw [HAW.out, if_pos hp, if_neg hq]; rfl)
          have hq' : wk ≤ n := by omega
          gi_wp2_with (refine wpListIn_skip rfl rfl ?_; go_simp)
          refine ⟨trivial, callsIn_wide.2 ?_⟩
          refine (bonus0_any _ _ B _ q0 x5).mono ?_
          rintro e w5 ⟨rfl, rfl⟩
          obtain ⟨fn, tmps, assign, body, hy, hR⟩ := HY.out _ ⟨t.ws.length + t.hs.length, k, 0, -1, 0⟩ _ hJs.out (Bk.pre_one HPRE.out HA.out)
          dsimp only [encA, arcCells] at hy
          simp only [Int.natCast_add] at hy
          gi_wp2_with (refine wpListIn_skip rfl rfl ?_; go_simp)
          refine hR.mono ?_
          rintro e W3 (⟨rfl, hJ3, hk3⟩ | ⟨rfl, hJx3⟩)
          · have S := Lib.hid (S.out.kpX (by rw [HB0.out]; exact hk3) (by simp [Item.cel]) (HDIS.out))
            clear hk3 hy hR 
            clear x0 x1 x2 x3 x4 x5 q0 y0 y1
            have x0 := keep_cell S.out.bel (HC.out 0 _ rfl)
            have x1 := keep_cell S.out.bel (HC.out 1 _ rfl)
            have x2 := keep_cell S.out.bel (HC.out 2 _ rfl)
            have x3 := keep_cell S.out.bel (HC.out 3 _ rfl)
            have x4 := keep_cell S.out.bel (HC.out 4 _ rfl)
            have x5 := keep_cell S.out.bel (HC.out 5 _ rfl)
            have q0 := S.out.get 2 0 rfl rfl
            have y0 := keep_cell S.out.bel HCK.out
            have y1 := own_cell (S.out.own 1 rfl) k _ HN.out
            gi_wp2_with (refine wpListIn_skip rfl rfl ?_; go_simp)
            go_roundw
            case rel => exact ⟨k + 1, by omega, by go_num, Lib.hid (by rw [HE.out, HA.out]; have := hJ3; simpa [List.append_assoc] using this), S⟩
            case measure => first | (simp [intOf]; done) | (simp [intOf]; omega)

          · clear hy hR
            gi_wp2_with (refine wpListIn_skip rfl rfl ?_; go_simp)
            refine bodyPost_ret (results_none rfl _ _ _) rfl ?_
            first
              | exact ⟨⟨_, rfl⟩, .inr ⟨_, trivial, hJx3⟩⟩
              | exact ⟨⟨_, rfl⟩, .inr ⟨_, hJx3⟩⟩
      · by_cases hq : n < wk
        · have HA := Lib.hid (show Bk.arcsW t.bt d k = [⟨k, t.ws.length + t.hs.length, 0, -1, 0⟩] by rw [HAW.out, if_neg hp, if_pos hq]; rfl)
          have hp' : n ≤ 0 := by omega
          gi_wp2_with (refine wpListIn_skip rfl rfl ?_; go_simp)
          refine ⟨trivial, callsIn_wide.2 ?_⟩
          refine (bonus0_any _ _ B _ q0 x5).mono ?_
          rintro e w5 ⟨rfl, rfl⟩
          obtain ⟨fn, tmps, assign, body, hy, hR⟩ := HY.out _ ⟨k, t.ws.length + t.hs.length, 0, -1, 0⟩ _ hJs.out (Bk.pre_one (HPRE.out) HA.out)
          dsimp only [encA, arcCells] at hy
          simp only [Int.natCast_add] at hy
          gi_wp2_with (refine wpListIn_skip rfl rfl ?_; go_simp)
          refine hR.mono ?_
          rintro e W3 (⟨rfl, hJ3, hk3⟩ | ⟨rfl, hJx3⟩)
          · have S := Lib.hid (S.out.kpX (by rw [HB0.out]; exact hk3) (by simp [Item.cel]) (HDIS.out))
            clear hk3 hy hR 
            gi_wp2_with (refine wpListIn_skip rfl rfl ?_; go_simp)
            go_roundw
            case rel => exact ⟨k + 1, by omega, by go_num, Lib.hid (by rw [HE.out, HA.out]; have := hJ3; simpa [List.append_assoc] using this), S⟩
            case measure => first | (simp [intOf]; done) | (simp [intOf]; omega)

          · clear hy hR
            gi_wp2_with (refine wpListIn_skip rfl rfl ?_; go_simp)
            refine bodyPost_ret (results_none rfl _ _ _) rfl ?_
            first
              | exact ⟨⟨_, rfl⟩, .inr ⟨_, trivial, hJx3⟩⟩
              | exact ⟨⟨_, rfl⟩, .inr ⟨_, hJx3⟩⟩
        · have HA := Lib.hid (show Bk.arcsW t.bt d k = [] by rw [HAW.out, if_neg hp, if_neg hq]; rfl)
          have hp' : n ≤ 0 := by omega
          have hq' : wk ≤ n := by omega
          gi_wp2_with (refine wpListIn_skip rfl rfl ?_; go_simp)
          go_roundw
          case rel => exact ⟨k + 1, by omega, by go_num, Lib.hid (by rw [HE.out, HA.out]; have := hJs.out; simpa [List.append_assoc] using this), S⟩
          case measure => first | (simp [intOf]; done) | (simp [intOf]; omega)
    · obtain rfl : k = t.ws.length := by omega
      have HJ0 := Lib.hid (show J (Bk.preH t.bt d 0) wr by rw [Bk.preH_zero]; exact hJs.out)
      have q0 := S.out.get 2 0 rfl rfl
      have x0 := keep_cell S.out.bel (HC.out 0 _ rfl)
      have x1 := keep_cell S.out.bel (HC.out 1 _ rfl)
      have x2 := keep_cell S.out.bel (HC.out 2 _ rfl)
      have x3 := keep_cell S.out.bel (HC.out 3 _ rfl)
      have x4 := keep_cell S.out.bel (HC.out 4 _ rfl)
      have x5 := keep_cell S.out.bel (HC.out 5 _ rfl)
      gi_wp2_with (refine wpListIn_skip rfl rfl ?_; go_simp)
      gi_loopw [104] (fun i wr => ∃ k : Nat, k ≤ t.hs.length ∧ i = I k ∧ Hid (J (Bk.preH t.bt d k) wr) ∧ Hid (St w0 wr wr.heap.size [.own 3 1 (.slice B1 t.hs.length k1) t.hs.length ((leftTo t d t.ys.length).1.map I), .own 3 1 (.slice B2 t.ws.length k2) t.ws.length ((leftTo t d t.ys.length).2.map I), .box W.heap.size [.pointer (some ⟨B, 0, none⟩)]])) (fun i _ => t.hs.length - (intOf i).toNat)
      case atStart => exact ⟨0, by omega, rfl, HJ0, S⟩
      case round =>
        clear S x0 x1 x2 x3 x4 x5 q0 HJ0
        obtain ⟨k, hk, rfl, hJs, S⟩ := hrel
        by_cases hlt : k < t.hs.length
        · have hki : (k : Int) < (t.hs.length : Int) := by omega
          have HN := Lib.hid (lack_left (d := d) hlt)
          have hbd := Bk.div_le HD.out (h := k)
          have hn0 := HD.out.lack k hlt
          have HPRE := Lib.hid (show Bk.preH t.bt d k ++ Bk.arcsH t.bt d k <+: Bk.arcsB t.bt d by rw [← Bk.preH_succ]; exact Bk.preH_le t.bt d (i := k + 1) hlt)
          have HE := Lib.hid (Bk.preH_succ t.bt d k)
          obtain ⟨bw, ow, hA1, hcw⟩ := HCH.out (by omega)
          subst hA1
          have HCK := Lib.hid (hcw k hlt)
          clear hcw
          have hwk : t.bt.hs k = t.hs[k] := by show t.hs.getD k 0 = _; rw [List.getD_eq_getElem?_getD, List.getElem?_eq_getElem hlt, Option.getD_some]
          have hw9 := (HSM.out.hs k hlt).2
          have HAW := Lib.hid (show Bk.arcsH t.bt d k = (if 0 < Bk.lackH t.bt d k then [⟨t.ws.length + k, t.ws.length + t.hs.length + 1, Bk.dear (Bk.lackH t.bt d k - 1) - Bk.dear (Bk.lackH t.bt d k), -1, 0⟩] else []) ++ (if Bk.lackH t.bt d k < t.bt.hs k then [⟨t.ws.length + t.hs.length + 1, t.ws.length + k, Bk.dear (Bk.lackH t.bt d k + 1) - Bk.dear (Bk.lackH t.bt d k), -1, 0⟩] else []) from rfl)
          rw [hwk] at hbd HAW hw9
          obtain ⟨gw, hgw⟩ := own_some (S.out.own 0 rfl) (by omega)
          subst hgw
          obtain ⟨n, hn⟩ : ∃ x, Bk.lackH t.bt d k = x := ⟨_, rfl⟩
          obtain ⟨wk, hwk2⟩ : ∃ x, t.hs[k] = x := ⟨_, rfl⟩
          rw [hn] at HN hbd hn0 HAW
          rw [hwk2] at hbd HAW HCK hw9
          clear hwk hn hwk2
          have e1 := Bk.dear_pos n
          have e2 := Bk.dear_le (show n ≤ 9 by omega)
          have e3 := Bk.dear_pos (n - 1)
          have e4 := Bk.dear_le (show n - 1 ≤ 9 by omega)
          have e5 := Bk.dear_pos (n + 1)
          have u1 : IntKind.i64.wrap (n - 1) = n - 1 := IntWalk.i64_in _ (by omega)
          have u2 : IntKind.i64.wrap (n + 1) = n + 1 := IntWalk.i64_in _ (by omega)
          have hmost : Bk.mostB = 40353607000 := rfl
          have u3 : IntKind.i64.wrap (Bk.dear (n - 1) - Bk.dear n) = Bk.dear (n - 1) - Bk.dear n := IntWalk.i64_in _ (by omega)
          have y1 := own_cell (S.out.own 0 rfl) k _ HN.out
          have x0 := keep_cell S.out.bel (HC.out 0 _ rfl)
          have x1 := keep_cell S.out.bel (HC.out 1 _ rfl)
          have x2 := keep_cell S.out.bel (HC.out 2 _ rfl)
          have x3 := keep_cell S.out.bel (HC.out 3 _ rfl)
          have x4 := keep_cell S.out.bel (HC.out 4 _ rfl)
          have x5 := keep_cell S.out.bel (HC.out 5 _ rfl)
          have q0 := S.out.get 2 0 rfl rfl
          have y0 := keep_cell S.out.bel HCK.out
          gi_wp2_with (refine wpListIn_skip rfl rfl ?_; go_simp)
          simp only [List.append_eq, List.cons_append, List.nil_append]
          refine wpIn_region_stages [0, 1, 3, 7, 7, 7, 55, 7, 7, 263, 775, 7, 3847, 7943, 7, 7, 7, 65543, 196615, 458759, 983047, 2064391, 4185863, 8388359, 16777207, 33554431, 67108863, 134217727, 268435455, 536870911, 536870911, 1610612735, 3758096383, 8053063679, 16642998271, 536870911, 68182605823, 136902082559, 274877906943, 549755813887, 1099511627775, 1099511627775, 1099511627775, 1099511627775, 14293651161087, 1099511627775, 36283883716607, 106652627894271, 1099511627775, 528865092960255, 1091815046381567, 1099511627775, 1099511627775, 1099511627775, 9008298766368767, 27022697275850751, 63051494294814719, 135109088332742655, 283727876035969023, 575300767536119807, 1152887419746385919, 2305841909702066175, 4611686018427387903, 9223372036854775807, 18446744073709551615, 36893488147419103231] [([0, 1, 2, 3, 4, 5, 6, 7, 8, 9, 11, 14, 15, 16, 17, 18, 19, 20, 21], 10), ([], 12), ([13], 22)] [([26, 27, 28, 29, 30, 31, 32, 33, 34, 35, 36, 37, 38, 39, 40, 41, 42, 43, 44, 45, 46, 48, 51, 52, 53, 54, 55, 56, 57, 58], 47), ([], 49), ([50], 59)] [23, 24] [60, 61] [63, 64, 65] 25 62 25 62 (by kernel_rfl) (by kernel_rfl) (by kernel_rfl) (by kernel_rfl) ?_
          intro KQ hKQ w1 hb
          have hJs := Lib.hid (HJ.out _ _ _ none hJs.out (grown_of_below hb none) (by simp))
          have S := Lib.hid (S.out.call hb)
          clear hb x0 x1 x2 x3 x4 x5 q0 y0 y1
          by_cases hp : 0 < n
          · by_cases hq : n < wk
            · have HA := Lib.hid (show Bk.arcsH t.bt d k = [⟨t.ws.length + k, t.ws.length + t.hs.length + 1, Bk.dear (n - 1) - Bk.dear n, -1, 0⟩, ⟨t.ws.length + t.hs.length + 1, t.ws.length + k, Bk.dear (n + 1) - Bk.dear n, -1, 0⟩] by rw [HAW.out, if_pos hp, if_pos hq]; rfl)
              have e6 := Bk.dear_le (show n + 1 ≤ 9 by omega)
              have u4 : IntKind.i64.wrap (Bk.dear (n + 1) - Bk.dear n) = Bk.dear (n + 1) - Bk.dear n := IntWalk.i64_in _ (by omega)
              have hkm : ¬ ((k : Int) = -1) := by omega
              have u5 : IntKind.i64.wrap ((t.ws.length : Int) + (k : Int)) = (t.ws.length : Int) + (k : Int) := IntWalk.i64_in _ (by omega)
              have x5 := keep_cell S.out.bel (HC.out 5 _ rfl)
              have q0 := S.out.get 2 0 rfl rfl
              have r0 := cell_regrown q0
              have r3 := cell_regrown (keep_cell S.out.bel (HC.out 3 _ rfl))
              have rx := cell_regrown (keep_cell S.out.bel (HC.out 0 _ rfl))
              have ry := cell_regrown (keep_cell S.out.bel HCK.out)
              refine stage_letter fun a0 ha0 => ?_
              have HA0 := Lib.hid ha0
              clear ha0
              have hk := Kn.nil (N := 222) (a := a0) (by rw [← HA0.out]; rfl)
              replace hk := hk.add 1 (v := .func (.yield l) #[] #[]) (by rw [← HA0.out]; rfl)
              replace hk := hk.add 2 (v := .pointer (some ⟨W.heap.size, 0, none⟩)) (by rw [← HA0.out]; rfl)
              replace hk := hk.add 6 (v := I (t.ws.length : Int)) (by rw [← HA0.out]; rfl)
              replace hk := hk.add 8 (v := I ((t.ws.length : Int) + (t.hs.length : Int) + 1)) (by rw [← HA0.out]; rfl)
              replace hk := hk.add 9 (v := .func (.func 102) #[] #[.pointer (some ⟨W.heap.size, 0, none⟩)]) (by rw [← HA0.out]; rfl)
              replace hk := hk.add 12 (v := I (k : Int)) (by rw [← HA0.out]; rfl)
              replace hk := hk.add 13 (v := I n) (by rw [← HA0.out]; rfl)
              refine stage_next ?_
              simp only [opsAt, List.filterMap_cons, List.filterMap_nil, List.getElem?_toArray, List.getElem?_cons_succ, List.getElem?_cons_zero]
              show wpQuiet _ _ _ _ [_, _, _, _, _, _, _, _, _, _, _, _, _, _, _, _, _, _, _] _
              refine kq_move hk _ rfl (hk.look rfl) rfl rfl (wanted_none rfl) ?_
              clear hk
              intro _ hk
              refine kq_val hk (.bool true) rfl rfl (wanted_none rfl) ?_ ?_
              · intro w' hw'
                obtain ⟨p, rfl⟩ := hw'
                have e109 := hk.at_ (i := 109) rfl
                simp [go_sem, e109, hp]
              clear hk
              intro _ hk
              refine kq_move hk _ rfl (hk.look rfl) rfl rfl (wanted_none rfl) ?_
              clear hk
              intro _ hk
              refine kq_move hk _ rfl (hk.look rfl) rfl rfl (wanted_yes hk rfl rfl rfl rfl) ?_
              clear hk
              intro _ hk
              refine kq_move hk _ rfl (hk.look rfl) rfl rfl (wanted_yes hk rfl rfl rfl rfl) ?_
              clear hk
              intro _ hk
              refine kq_move hk _ rfl (hk.look rfl) rfl rfl (wanted_yes hk rfl rfl rfl rfl) ?_
              clear hk
              intro _ hk
              refine kq_val hk (I ((t.ws.length : Int) + (k : Int))) rfl rfl (wanted_yes hk rfl rfl rfl rfl) ?_ ?_
              · intro w' hw'
                obtain ⟨p, rfl⟩ := hw'
                have e113 := hk.at_ (i := 113) rfl
                have e114 := hk.at_ (i := 114) rfl
                simp [go_sem, e113, e114, u5]
              clear hk
              intro _ hk
              refine kq_move hk _ rfl (hk.look rfl) rfl rfl (wanted_yes hk rfl rfl rfl rfl) ?_
              clear hk
              intro _ hk
              refine kq_move hk _ rfl (hk.look rfl) rfl rfl (wanted_yes hk rfl rfl rfl rfl) ?_
              clear hk
              intro _ hk
              refine kq_val hk (I (n - 1)) rfl rfl (wanted_yes hk rfl rfl rfl rfl) ?_ ?_
              · intro w' hw'
                obtain ⟨p, rfl⟩ := hw'
                have e117 := hk.at_ (i := 117) rfl
                simp [go_sem, e117, u1]
              clear hk
              intro _ hk
              refine kq_move hk _ rfl (hk.look rfl) rfl rfl (wanted_yes hk rfl rfl rfl rfl) ?_
              clear hk
              intro _ hk
              refine kq_move hk _ rfl (hk.look rfl) rfl rfl (wanted_yes hk rfl rfl rfl rfl) ?_
              clear hk
              intro _ hk
              refine kq_move hk _ rfl (hk.look rfl) rfl rfl (wanted_yes hk rfl rfl rfl rfl) ?_
              clear hk
              intro _ hk
              refine kq_val hk (.pointer (some ⟨B, 0, none⟩)) rfl rfl (wanted_yes hk rfl rfl rfl rfl) ?_ ?_
              · intro w' hw'
                obtain ⟨p, rfl⟩ := hw'
                have e2 := hk.at_ (i := 2) rfl
                simp [go_sem, e2, r0]
              clear hk
              intro _ hk
              refine kq_val hk (.pointer (some ⟨B, 0, none⟩)) rfl rfl (wanted_yes hk rfl rfl rfl rfl) ?_ ?_
              · intro w' hw'
                obtain ⟨p, rfl⟩ := hw'
                have e125 := hk.at_ (i := 125) rfl
                simp [go_sem, e125]
              clear hk
              intro _ hk
              refine kq_val hk (.pointer (some ⟨B, 3, none⟩)) rfl rfl (wanted_yes hk rfl rfl rfl rfl) ?_ ?_
              · intro w' hw'
                obtain ⟨p, rfl⟩ := hw'
                have e126 := hk.at_ (i := 126) rfl
                simp [go_sem, e126]
              clear hk
              intro _ hk
              refine kq_val hk (.pointer (some ⟨B, 3, none⟩)) rfl rfl (wanted_yes hk rfl rfl rfl rfl) ?_ ?_
              · intro w' hw'
                obtain ⟨p, rfl⟩ := hw'
                have e127 := hk.at_ (i := 127) rfl
                simp [go_sem, e127]
              clear hk
              intro _ hk
              refine kq_val hk (I (-1)) rfl rfl (wanted_yes hk rfl rfl rfl rfl) ?_ ?_
              · intro w' hw'
                obtain ⟨p, rfl⟩ := hw'
                have e128 := hk.at_ (i := 128) rfl
                simp [go_sem, e128, r3]
              clear hk
              intro _ hk
              refine kq_val hk (.bool false) rfl rfl (wanted_yes hk rfl rfl rfl rfl) ?_ ?_
              · intro w' hw'
                obtain ⟨p, rfl⟩ := hw'
                have e124 := hk.at_ (i := 124) rfl
                have e129 := hk.at_ (i := 129) rfl
                simp [go_sem, e124, e129, hkm]
              clear hk
              intro _ hk
              refine wpQuiet_nil ?_
              intro K hK
              refine kl_call hk (f := 103) (vs := #[I (n - 1)]) rfl (wanted_yes hk rfl rfl rfl rfl) rfl rfl ?_ ?_
              · skip
                have e118 := hk.at_ (i := 118) rfl
                simp [go_sem, e118]
              refine (dear_any _ _ (by omega)).mono ?_
              rintro e w2 ⟨rfl, hw⟩
              subst hw
              refine ⟨_, rfl, ?_⟩
              clear hk
              intro _ hk
              refine hK _ _ (Below.refl _ _) ?_
              clear hK K
              refine stage_next ?_
              simp only [opsAt, List.filterMap_nil]
              refine wpQuiet_nil ?_
              intro K hK
              refine kl_call hk (f := 103) (vs := #[I n]) rfl (wanted_yes hk rfl rfl rfl rfl) rfl rfl ?_ ?_
              · skip
                have e120 := hk.at_ (i := 120) rfl
                simp [go_sem, e120]
              refine (dear_any _ _ (by omega)).mono ?_
              rintro e w2 ⟨rfl, hw⟩
              subst hw
              refine ⟨_, rfl, ?_⟩
              clear hk
              intro _ hk
              refine hK _ _ (Below.refl _ _) ?_
              clear hK K
              refine stage_next ?_
              simp only [opsAt, List.filterMap_cons, List.filterMap_nil, List.getElem?_toArray, List.getElem?_cons_succ, List.getElem?_cons_zero]
              show wpQuiet _ _ _ _ [_] _
              refine kq_val hk (I (Bk.dear (n - 1) - Bk.dear n)) rfl rfl (wanted_yes hk rfl rfl rfl rfl) ?_ ?_
              · intro w' hw'
                obtain ⟨p, rfl⟩ := hw'
                have e119 := hk.at_ (i := 119) rfl
                have e121 := hk.at_ (i := 121) rfl
                simp [go_sem, e119, e121, u3]
              clear hk
              intro _ hk
              refine wpQuiet_nil ?_
              intro K hK
              refine kl_call hk (f := 102) (vs := #[.bool false, .pointer (some ⟨W.heap.size, 0, none⟩)]) rfl (wanted_yes hk rfl rfl rfl rfl) rfl rfl ?_ ?_
              · skip
                have e123 := hk.at_ (i := 123) rfl
                have e130 := hk.at_ (i := 130) rfl
                simp [go_sem, e123, e130]
              refine (bonus0_any _ _ B _ q0 x5).mono ?_
              rintro e w2 ⟨rfl, hw⟩
              subst hw
              refine ⟨_, rfl, ?_⟩
              clear hk
              intro _ hk
              refine hK _ _ (Below.refl _ _) ?_
              clear hK K
              refine stage_last ?_
              simp only [opsAt, List.filterMap_cons, List.filterMap_nil, List.getElem?_toArray, List.getElem?_cons_succ, List.getElem?_cons_zero]
              show wpQuiet _ _ _ _ [_, _] _
              refine kq_val hk (I (Bk.dear (n - 1) - Bk.dear n)) rfl rfl (wanted_yes hk rfl rfl rfl rfl) ?_ ?_
              · intro w' hw'
                obtain ⟨p, rfl⟩ := hw'
                have e122 := hk.at_ (i := 122) rfl
                have e131 := hk.at_ (i := 131) rfl
                simp [go_sem, e122, e131, u3]
              clear hk
              intro _ hk
              refine kq_val hk (.agg #[I ((t.ws.length : Int) + (k : Int)), I ((t.ws.length : Int) + (t.hs.length : Int) + 1), I (Bk.dear (n - 1) - Bk.dear n), I (-1), I 0]) rfl rfl (wanted_yes hk rfl rfl rfl rfl) ?_ ?_
              · intro w' hw'
                obtain ⟨p, rfl⟩ := hw'
                have e115 := hk.at_ (i := 115) rfl
                have e116 := hk.at_ (i := 116) rfl
                have e132 := hk.at_ (i := 132) rfl
                simp [go_sem, e115, e116, e132]
              clear hk
              intro _ hk
              refine wpQuiet_nil ?_
              intro K hK
              have hY1 := HY.out _ ⟨t.ws.length + k, t.ws.length + t.hs.length + 1, Bk.dear (n - 1) - Bk.dear n, -1, 0⟩ _ hJs.out (Bk.pre_one HPRE.out HA.out)
              dsimp only [encA, arcCells] at hY1
              simp only [Int.natCast_add, Int.natCast_one] at hY1
              refine kl_yield hk rfl (wanted_yes hk rfl rfl rfl rfl) rfl rfl rfl (hk.look rfl) (hk.look rfl) hY1 ?_
              clear hY1
              rintro e W3 (⟨rfl, hJ3, hk3⟩ | ⟨rfl, hJx3⟩)
              · refine ⟨_, rfl, ?_⟩
                clear hk
                intro _ hk
                refine hK _ _ ?_
                clear hK K
                have S := Lib.hid (S.out.kpX (by rw [HB0.out]; exact hk3) (by simp [Item.cel]) (HDIS.out))
                clear hk3
                clear x5 q0 r0 r3 rx ry
                have x5 := keep_cell S.out.bel (HC.out 5 _ rfl)
                have q0 := S.out.get 2 0 rfl rfl
                have r0 := cell_regrown q0
                have r3 := cell_regrown (keep_cell S.out.bel (HC.out 3 _ rfl))
                have rx := cell_regrown (keep_cell S.out.bel (HC.out 0 _ rfl))
                have ry := cell_regrown (keep_cell S.out.bel HCK.out)
                refine stage_next ?_
                simp only [opsAt, List.filterMap_cons, List.filterMap_nil, List.getElem?_toArray, List.getElem?_cons_succ, List.getElem?_cons_zero]
                show wpQuiet _ _ _ _ [_, _, _, _, _, _, _, _, _, _, _, _, _, _, _, _, _, _, _, _, _, _, _, _, _, _, _, _, _, _] _
                refine kq_val hk (.bool false) rfl rfl (wanted_yes hk rfl rfl rfl rfl) ?_ ?_
                · intro w' hw'
                  obtain ⟨p, rfl⟩ := hw'
                  have e134 := hk.at_ (i := 134) rfl
                  simp [go_sem, e134]
                clear hk
                intro _ hk
                refine kq_val hk (.bool false) rfl rfl (wanted_none rfl) ?_ ?_
                · intro w' hw'
                  obtain ⟨p, rfl⟩ := hw'
                  have e111 := hk.at_ (i := 111) rfl
                  have e135 := hk.at_ (i := 135) rfl
                  simp [go_sem, e111, e135]
                clear hk
                intro _ hk
                refine kq_move hk _ rfl (hk.look rfl) rfl rfl (wanted_none rfl) ?_
                clear hk
                intro _ hk
                refine kq_move hk _ rfl (hk.look rfl) rfl rfl (wanted_yes hk rfl rfl rfl rfl) ?_
                clear hk
                intro _ hk
                refine kq_val hk (.pointer (some ⟨B, 0, none⟩)) rfl rfl (wanted_yes hk rfl rfl rfl rfl) ?_ ?_
                · intro w' hw'
                  obtain ⟨p, rfl⟩ := hw'
                  have e2 := hk.at_ (i := 2) rfl
                  simp [go_sem, e2, r0]
                clear hk
                intro _ hk
                refine kq_val hk (.pointer (some ⟨B, 0, none⟩)) rfl rfl (wanted_yes hk rfl rfl rfl rfl) ?_ ?_
                · intro w' hw'
                  obtain ⟨p, rfl⟩ := hw'
                  have e139 := hk.at_ (i := 139) rfl
                  simp [go_sem, e139]
                clear hk
                intro _ hk
                refine kq_val hk (.pointer (some ⟨B, 0, none⟩)) rfl rfl (wanted_yes hk rfl rfl rfl rfl) ?_ ?_
                · intro w' hw'
                  obtain ⟨p, rfl⟩ := hw'
                  have e140 := hk.at_ (i := 140) rfl
                  simp [go_sem, e140]
                clear hk
                intro _ hk
                refine kq_val hk (.pointer (some ⟨B, 0, none⟩)) rfl rfl (wanted_yes hk rfl rfl rfl rfl) ?_ ?_
                · intro w' hw'
                  obtain ⟨p, rfl⟩ := hw'
                  have e141 := hk.at_ (i := 141) rfl
                  simp [go_sem, e141]
                clear hk
                intro _ hk
                refine kq_val hk (.slice (some ⟨bw, ow, none⟩) t.hs.length c1) rfl rfl (wanted_yes hk rfl rfl rfl rfl) ?_ ?_
                · intro w' hw'
                  obtain ⟨p, rfl⟩ := hw'
                  have e142 := hk.at_ (i := 142) rfl
                  simp [go_sem, e142, rx]
                clear hk
                intro _ hk
                refine kq_move hk _ rfl (hk.look rfl) rfl rfl (wanted_yes hk rfl rfl rfl rfl) ?_
                clear hk
                intro _ hk
                refine kq_val hk (.pointer (some ⟨bw, ow + k, none⟩)) rfl rfl (wanted_yes hk rfl rfl rfl rfl) ?_ ?_
                · intro w' hw'
                  obtain ⟨p, rfl⟩ := hw'
                  have e143 := hk.at_ (i := 143) rfl
                  have e144 := hk.at_ (i := 144) rfl
                  simp [go_sem, e143, e144, hki]
                clear hk
                intro _ hk
                refine kq_val hk (I wk) rfl rfl (wanted_yes hk rfl rfl rfl rfl) ?_ ?_
                · intro w' hw'
                  obtain ⟨p, rfl⟩ := hw'
                  have e145 := hk.at_ (i := 145) rfl
                  simp [go_sem, e145, ry]
                clear hk
                intro _ hk
                refine kq_val hk (.bool true) rfl rfl (wanted_yes hk rfl rfl rfl rfl) ?_ ?_
                · intro w' hw'
                  obtain ⟨p, rfl⟩ := hw'
                  have e138 := hk.at_ (i := 138) rfl
                  have e146 := hk.at_ (i := 146) rfl
                  simp [go_sem, e138, e146, hq]
                clear hk
                intro _ hk
                refine kq_move hk _ rfl (hk.look rfl) rfl rfl (wanted_yes hk rfl rfl rfl rfl) ?_
                clear hk
                intro _ hk
                refine kq_move hk _ rfl (hk.look rfl) rfl rfl (wanted_yes hk rfl rfl rfl rfl) ?_
                clear hk
                intro _ hk
                refine kq_move hk _ rfl (hk.look rfl) rfl rfl (wanted_yes hk rfl rfl rfl rfl) ?_
                clear hk
                intro _ hk
                refine kq_move hk _ rfl (hk.look rfl) rfl rfl (wanted_yes hk rfl rfl rfl rfl) ?_
                clear hk
                intro _ hk
                refine kq_move hk _ rfl (hk.look rfl) rfl rfl (wanted_yes hk rfl rfl rfl rfl) ?_
                clear hk
                intro _ hk
                refine kq_val hk (I ((t.ws.length : Int) + (k : Int))) rfl rfl (wanted_yes hk rfl rfl rfl rfl) ?_ ?_
                · intro w' hw'
                  obtain ⟨p, rfl⟩ := hw'
                  have e151 := hk.at_ (i := 151) rfl
                  have e152 := hk.at_ (i := 152) rfl
                  simp [go_sem, e151, e152, u5]
                clear hk
                intro _ hk
                refine kq_move hk _ rfl (hk.look rfl) rfl rfl (wanted_yes hk rfl rfl rfl rfl) ?_
                clear hk
                intro _ hk
                refine kq_val hk (I (n + 1)) rfl rfl (wanted_yes hk rfl rfl rfl rfl) ?_ ?_
                · intro w' hw'
                  obtain ⟨p, rfl⟩ := hw'
                  have e154 := hk.at_ (i := 154) rfl
                  simp [go_sem, e154, u2]
                clear hk
                intro _ hk
                refine kq_move hk _ rfl (hk.look rfl) rfl rfl (wanted_yes hk rfl rfl rfl rfl) ?_
                clear hk
                intro _ hk
                refine kq_move hk _ rfl (hk.look rfl) rfl rfl (wanted_yes hk rfl rfl rfl rfl) ?_
                clear hk
                intro _ hk
                refine kq_move hk _ rfl (hk.look rfl) rfl rfl (wanted_yes hk rfl rfl rfl rfl) ?_
                clear hk
                intro _ hk
                refine kq_val hk (.pointer (some ⟨B, 0, none⟩)) rfl rfl (wanted_yes hk rfl rfl rfl rfl) ?_ ?_
                · intro w' hw'
                  obtain ⟨p, rfl⟩ := hw'
                  have e2 := hk.at_ (i := 2) rfl
                  simp [go_sem, e2, r0]
                clear hk
                intro _ hk
                refine kq_val hk (.pointer (some ⟨B, 0, none⟩)) rfl rfl (wanted_yes hk rfl rfl rfl rfl) ?_ ?_
                · intro w' hw'
                  obtain ⟨p, rfl⟩ := hw'
                  have e162 := hk.at_ (i := 162) rfl
                  simp [go_sem, e162]
                clear hk
                intro _ hk
                refine kq_val hk (.pointer (some ⟨B, 3, none⟩)) rfl rfl (wanted_yes hk rfl rfl rfl rfl) ?_ ?_
                · intro w' hw'
                  obtain ⟨p, rfl⟩ := hw'
                  have e163 := hk.at_ (i := 163) rfl
                  simp [go_sem, e163]
                clear hk
                intro _ hk
                refine kq_val hk (.pointer (some ⟨B, 3, none⟩)) rfl rfl (wanted_yes hk rfl rfl rfl rfl) ?_ ?_
                · intro w' hw'
                  obtain ⟨p, rfl⟩ := hw'
                  have e164 := hk.at_ (i := 164) rfl
                  simp [go_sem, e164]
                clear hk
                intro _ hk
                refine kq_val hk (I (-1)) rfl rfl (wanted_yes hk rfl rfl rfl rfl) ?_ ?_
                · intro w' hw'
                  obtain ⟨p, rfl⟩ := hw'
                  have e165 := hk.at_ (i := 165) rfl
                  simp [go_sem, e165, r3]
                clear hk
                intro _ hk
                refine kq_val hk (.bool false) rfl rfl (wanted_yes hk rfl rfl rfl rfl) ?_ ?_
                · intro w' hw'
                  obtain ⟨p, rfl⟩ := hw'
                  have e161 := hk.at_ (i := 161) rfl
                  have e166 := hk.at_ (i := 166) rfl
                  simp [go_sem, e161, e166, hkm]
                clear hk
                intro _ hk
                refine wpQuiet_nil ?_
                intro K hK
                refine kl_call hk (f := 103) (vs := #[I (n + 1)]) rfl (wanted_yes hk rfl rfl rfl rfl) rfl rfl ?_ ?_
                · skip
                  have e155 := hk.at_ (i := 155) rfl
                  simp [go_sem, e155]
                refine (dear_any _ _ (by omega)).mono ?_
                rintro e w2 ⟨rfl, hw⟩
                subst hw
                refine ⟨_, rfl, ?_⟩
                clear hk
                intro _ hk
                refine hK _ _ (Below.refl _ _) ?_
                clear hK K
                refine stage_next ?_
                simp only [opsAt, List.filterMap_nil]
                refine wpQuiet_nil ?_
                intro K hK
                refine kl_call hk (f := 103) (vs := #[I n]) rfl (wanted_yes hk rfl rfl rfl rfl) rfl rfl ?_ ?_
                · skip
                  have e157 := hk.at_ (i := 157) rfl
                  simp [go_sem, e157]
                refine (dear_any _ _ (by omega)).mono ?_
                rintro e w2 ⟨rfl, hw⟩
                subst hw
                refine ⟨_, rfl, ?_⟩
                clear hk
                intro _ hk
                refine hK _ _ (Below.refl _ _) ?_
                clear hK K
                refine stage_next ?_
                simp only [opsAt, List.filterMap_cons, List.filterMap_nil, List.getElem?_toArray, List.getElem?_cons_succ, List.getElem?_cons_zero]
                show wpQuiet _ _ _ _ [_] _
                refine kq_val hk (I (Bk.dear (n + 1) - Bk.dear n)) rfl rfl (wanted_yes hk rfl rfl rfl rfl) ?_ ?_
                · intro w' hw'
                  obtain ⟨p, rfl⟩ := hw'
                  have e156 := hk.at_ (i := 156) rfl
                  have e158 := hk.at_ (i := 158) rfl
                  simp [go_sem, e156, e158, u4]
                clear hk
                intro _ hk
                refine wpQuiet_nil ?_
                intro K hK
                refine kl_call hk (f := 102) (vs := #[.bool false, .pointer (some ⟨W.heap.size, 0, none⟩)]) rfl (wanted_yes hk rfl rfl rfl rfl) rfl rfl ?_ ?_
                · skip
                  have e160 := hk.at_ (i := 160) rfl
                  have e167 := hk.at_ (i := 167) rfl
                  simp [go_sem, e160, e167]
                refine (bonus0_any _ _ B _ q0 x5).mono ?_
                rintro e w2 ⟨rfl, hw⟩
                subst hw
                refine ⟨_, rfl, ?_⟩
                clear hk
                intro _ hk
                refine hK _ _ (Below.refl _ _) ?_
                clear hK K
                refine stage_last ?_
                simp only [opsAt, List.filterMap_cons, List.filterMap_nil, List.getElem?_toArray, List.getElem?_cons_succ, List.getElem?_cons_zero]
                show wpQuiet _ _ _ _ [_, _] _
                refine kq_val hk (I (Bk.dear (n + 1) - Bk.dear n)) rfl rfl (wanted_yes hk rfl rfl rfl rfl) ?_ ?_
                · intro w' hw'
                  obtain ⟨p, rfl⟩ := hw'
                  have e159 := hk.at_ (i := 159) rfl
                  have e168 := hk.at_ (i := 168) rfl
                  simp [go_sem, e159, e168, u4]
                clear hk
                intro _ hk
                refine kq_val hk (.agg #[I ((t.ws.length : Int) + (t.hs.length : Int) + 1), I ((t.ws.length : Int) + (k : Int)), I (Bk.dear (n + 1) - Bk.dear n), I (-1), I 0]) rfl rfl (wanted_yes hk rfl rfl rfl rfl) ?_ ?_
                · intro w' hw'
                  obtain ⟨p, rfl⟩ := hw'
                  have e150 := hk.at_ (i := 150) rfl
                  have e153 := hk.at_ (i := 153) rfl
                  have e169 := hk.at_ (i := 169) rfl
                  simp [go_sem, e150, e153, e169]
                clear hk
                intro _ hk
                refine wpQuiet_nil ?_
                intro K hK
                have hY1 := HY.out _ ⟨t.ws.length + t.hs.length + 1, t.ws.length + k, Bk.dear (n + 1) - Bk.dear n, -1, 0⟩ _ hJ3 (Bk.pre_two HPRE.out HA.out)
                dsimp only [encA, arcCells] at hY1
                simp only [Int.natCast_add, Int.natCast_one] at hY1
                refine kl_yield hk rfl (wanted_yes hk rfl rfl rfl rfl) rfl rfl rfl (hk.look rfl) (hk.look rfl) hY1 ?_
                clear hY1
                rintro e W3 (⟨rfl, hJ3, hk3⟩ | ⟨rfl, hJx3⟩)
                · refine ⟨_, rfl, ?_⟩
                  clear hk
                  intro _ hk
                  refine hK _ _ ?_
                  clear hK K
                  have S := Lib.hid (S.out.kpX (by rw [HB0.out]; exact hk3) (by simp [Item.cel]) (HDIS.out))
                  clear hk3
                  refine quiet_cls ?_
                  show wpQuiet _ _ _ _ [_, _, _] _
                  refine kq_val hk (.bool false) rfl rfl (wanted_yes hk rfl rfl rfl rfl) ?_ ?_
                  · intro w' hw'
                    obtain ⟨p, rfl⟩ := hw'
                    have e171 := hk.at_ (i := 171) rfl
                    simp [go_sem, e171]
                  clear hk
                  intro _ hk
                  refine kq_val hk (.bool false) rfl rfl (wanted_yes hk rfl rfl rfl rfl) ?_ ?_
                  · intro w' hw'
                    obtain ⟨p, rfl⟩ := hw'
                    have e148 := hk.at_ (i := 148) rfl
                    have e172 := hk.at_ (i := 172) rfl
                    simp [go_sem, e148, e172]
                  clear hk
                  intro _ hk
                  refine kq_val hk (.bool false) rfl rfl (wanted_none rfl) ?_ ?_
                  · intro w' hw'
                    obtain ⟨p, rfl⟩ := hw'
                    have e137 := hk.at_ (i := 137) rfl
                    have e173 := hk.at_ (i := 173) rfl
                    simp [go_sem, e137, e173]
                  clear hk
                  intro _ hk
                  refine wpQuiet_nil ?_
                  refine hKQ _ _ ?_
                  clear hKQ KQ
                  have ea := hk.is
                  rw [← HA0.out] at ea
                  simp only [puts, Act.put, List.setIfInBounds_toArray, List.set_cons_succ, List.set_cons_zero] at ea
                  subst ea
                  clear hk HA0
                  gi_wp2_with (refine wpListIn_skip rfl rfl ?_; go_simp)
                  go_roundw
                  case rel => exact ⟨k + 1, by omega, by go_num, Lib.hid (by rw [HE.out, HA.out]; have := hJ3; simpa [List.append_assoc] using this), S⟩
                  case measure => first | (simp [intOf]; done) | (simp [intOf]; omega)
                · refine ⟨_, rfl, ?_⟩
                  clear hk
                  intro _ hk
                  refine hK _ _ ?_
                  clear hK K
                  refine quiet_cls ?_
                  show wpQuiet _ _ _ _ [_, _, _] _
                  refine kq_val hk (.bool true) rfl rfl (wanted_yes hk rfl rfl rfl rfl) ?_ ?_
                  · intro w' hw'
                    obtain ⟨p, rfl⟩ := hw'
                    have e171 := hk.at_ (i := 171) rfl
                    simp [go_sem, e171]
                  clear hk
                  intro _ hk
                  refine kq_val hk (.bool true) rfl rfl (wanted_yes hk rfl rfl rfl rfl) ?_ ?_
                  · intro w' hw'
                    obtain ⟨p, rfl⟩ := hw'
                    have e148 := hk.at_ (i := 148) rfl
                    have e172 := hk.at_ (i := 172) rfl
                    simp [go_sem, e148, e172]
                  clear hk
                  intro _ hk
                  refine kq_val hk (.bool true) rfl rfl (wanted_none rfl) ?_ ?_
                  · intro w' hw'
                    obtain ⟨p, rfl⟩ := hw'
                    have e137 := hk.at_ (i := 137) rfl
                    have e173 := hk.at_ (i := 173) rfl
                    simp [go_sem, e137, e173]
                  clear hk
                  intro _ hk
                  refine wpQuiet_nil ?_
                  refine hKQ _ _ ?_
                  clear hKQ KQ
                  have ea := hk.is
                  rw [← HA0.out] at ea
                  simp only [puts, Act.put, List.setIfInBounds_toArray, List.set_cons_succ, List.set_cons_zero] at ea
                  subst ea
                  clear hk HA0
                  gi_wp2_with (refine wpListIn_skip rfl rfl ?_; go_simp)
                  refine bodyPost_ret (results_none rfl _ _ _) rfl ?_
                  first
                    | exact ⟨⟨_, rfl⟩, .inr ⟨_, trivial, hJx3⟩⟩
                    | exact ⟨⟨_, rfl⟩, .inr ⟨_, hJx3⟩⟩
              · refine ⟨_, rfl, ?_⟩
                clear hk
                intro _ hk
                refine hK _ _ ?_
                clear hK K
                refine stage_next ?_
                simp only [opsAt, List.filterMap_cons, List.filterMap_nil, List.getElem?_toArray, List.getElem?_cons_succ, List.getElem?_cons_zero]
                show wpQuiet _ _ _ _ [_, _, _, _, _, _, _, _, _, _, _, _, _, _, _, _, _, _, _, _, _, _, _, _, _, _, _, _, _, _] _
                refine kq_val hk (.bool true) rfl rfl (wanted_yes hk rfl rfl rfl rfl) ?_ ?_
                · intro w' hw'
                  obtain ⟨p, rfl⟩ := hw'
                  have e134 := hk.at_ (i := 134) rfl
                  simp [go_sem, e134]
                clear hk
                intro _ hk
                refine kq_val hk (.bool true) rfl rfl (wanted_none rfl) ?_ ?_
                · intro w' hw'
                  obtain ⟨p, rfl⟩ := hw'
                  have e111 := hk.at_ (i := 111) rfl
                  have e135 := hk.at_ (i := 135) rfl
                  simp [go_sem, e111, e135]
                clear hk
                intro _ hk
                refine kq_move hk _ rfl (hk.look rfl) rfl rfl (wanted_none rfl) ?_
                clear hk
                intro _ hk
                refine kq_skip hk rfl rfl rfl rfl rfl rfl ?_
                clear hk
                intro _ hk
                refine kq_skip hk rfl rfl rfl rfl rfl rfl ?_
                clear hk
                intro _ hk
                refine kq_skip hk rfl rfl rfl rfl rfl rfl ?_
                clear hk
                intro _ hk
                refine kq_skip hk rfl rfl rfl rfl rfl rfl ?_
                clear hk
                intro _ hk
                refine kq_skip hk rfl rfl rfl rfl rfl rfl ?_
                clear hk
                intro _ hk
                refine kq_skip hk rfl rfl rfl rfl rfl rfl ?_
                clear hk
                intro _ hk
                refine kq_skip hk rfl rfl rfl rfl rfl rfl ?_
                clear hk
                intro _ hk
                refine kq_skip hk rfl rfl rfl rfl rfl rfl ?_
                clear hk
                intro _ hk
                refine kq_skip hk rfl rfl rfl rfl rfl rfl ?_
                clear hk
                intro _ hk
                refine kq_skip hk rfl rfl rfl rfl rfl rfl ?_
                clear hk
                intro _ hk
                refine kq_skip hk rfl rfl rfl rfl rfl rfl ?_
                clear hk
                intro _ hk
                refine kq_skip hk rfl rfl rfl rfl rfl rfl ?_
                clear hk
                intro _ hk
                refine kq_skip hk rfl rfl rfl rfl rfl rfl ?_
                clear hk
                intro _ hk
                refine kq_skip hk rfl rfl rfl rfl rfl rfl ?_
                clear hk
                intro _ hk
                refine kq_skip hk rfl rfl rfl rfl rfl rfl ?_
                clear hk
                intro _ hk
                refine kq_skip hk rfl rfl rfl rfl rfl rfl ?_
                clear hk
                intro _ hk
                refine kq_skip hk rfl rfl rfl rfl rfl rfl ?_
                clear hk
                intro _ hk
                refine kq_skip hk rfl rfl rfl rfl rfl rfl ?_
                clear hk
                intro _ hk
                refine kq_skip hk rfl rfl rfl rfl rfl rfl ?_
                clear hk
                intro _ hk
                refine kq_skip hk rfl rfl rfl rfl rfl rfl ?_
                clear hk
                intro _ hk
                refine kq_skip hk rfl rfl rfl rfl rfl rfl ?_
                clear hk
                intro _ hk
                refine kq_skip hk rfl rfl rfl rfl rfl rfl ?_
                clear hk
                intro _ hk
                refine kq_skip hk rfl rfl rfl rfl rfl rfl ?_
                clear hk
                intro _ hk
                refine kq_skip hk rfl rfl rfl rfl rfl rfl ?_
                clear hk
                intro _ hk
                refine kq_skip hk rfl rfl rfl rfl rfl rfl ?_
                clear hk
                intro _ hk
                refine kq_skip hk rfl rfl rfl rfl rfl rfl ?_
                clear hk
                intro _ hk
                refine kq_skip hk rfl rfl rfl rfl rfl rfl ?_
                clear hk
                intro _ hk
                refine wpQuiet_nil ?_
                intro K hK
                refine kl_skip hk rfl rfl rfl rfl rfl rfl rfl ?_
                clear hk
                intro _ hk
                refine hK _ _ (Below.refl _ _) ?_
                clear hK K
                refine stage_next ?_
                simp only [opsAt, List.filterMap_nil]
                refine wpQuiet_nil ?_
                intro K hK
                refine kl_skip hk rfl rfl rfl rfl rfl rfl rfl ?_
                clear hk
                intro _ hk
                refine hK _ _ (Below.refl _ _) ?_
                clear hK K
                refine stage_next ?_
                simp only [opsAt, List.filterMap_cons, List.filterMap_nil, List.getElem?_toArray, List.getElem?_cons_succ, List.getElem?_cons_zero]
                show wpQuiet _ _ _ _ [_] _
                refine kq_skip hk rfl rfl rfl rfl rfl rfl ?_
                clear hk
                intro _ hk
                refine wpQuiet_nil ?_
                intro K hK
                refine kl_skip hk rfl rfl rfl rfl rfl rfl rfl ?_
                clear hk
                intro _ hk
                refine hK _ _ (Below.refl _ _) ?_
                clear hK K
                refine stage_last ?_
                simp only [opsAt, List.filterMap_cons, List.filterMap_nil, List.getElem?_toArray, List.getElem?_cons_succ, List.getElem?_cons_zero]
                show wpQuiet _ _ _ _ [_, _] _
                refine kq_skip hk rfl rfl rfl rfl rfl rfl ?_
                clear hk
                intro _ hk
                refine kq_skip hk rfl rfl rfl rfl rfl rfl ?_
                clear hk
                intro _ hk
                refine wpQuiet_nil ?_
                intro K hK
                refine kl_skip hk rfl rfl rfl rfl rfl rfl rfl ?_
                clear hk
                intro _ hk
                refine hK _ _ ?_
                clear hK K
                refine quiet_cls ?_
                show wpQuiet _ _ _ _ [_, _, _] _
                refine kq_skip hk rfl rfl rfl rfl rfl rfl ?_
                clear hk
                intro _ hk
                refine kq_skip hk rfl rfl rfl rfl rfl rfl ?_
                clear hk
                intro _ hk
                refine kq_val hk (.bool true) rfl rfl (wanted_none rfl) ?_ ?_
                · intro w' hw'
                  obtain ⟨p, rfl⟩ := hw'
                  have e137 := hk.at_ (i := 137) rfl
                  have e173 := hk.at_ (i := 173) rfl
                  simp [go_sem, e137, e173]
                clear hk
                intro _ hk
                refine wpQuiet_nil ?_
                refine hKQ _ _ ?_
                clear hKQ KQ
                have ea := hk.is
                rw [← HA0.out] at ea
                simp only [puts, Act.put, List.setIfInBounds_toArray, List.set_cons_succ, List.set_cons_zero] at ea
                subst ea
                clear hk HA0
                gi_wp2_with (refine wpListIn_skip rfl rfl ?_; go_simp)
                refine bodyPost_ret (results_none rfl _ _ _) rfl ?_
                first
                  | exact ⟨⟨_, rfl⟩, .inr ⟨_, trivial, hJx3⟩⟩
                  | exact ⟨⟨_, rfl⟩, .inr ⟨_, hJx3⟩⟩
            · have HA := Lib.hid (show Bk.arcsH t.bt d k = [⟨t.ws.length + k, t.ws.length + t.hs.length + 1, Bk.dear (n - 1) - Bk.dear n, -1, 0⟩] by rw [HAW.out, if_pos hp, if_neg hq]; rfl)
              have hq' : wk ≤ n := by omega
              have hkm : ¬ ((k : Int) = -1) := by omega
              have u5 : IntKind.i64.wrap ((t.ws.length : Int) + (k : Int)) = (t.ws.length : Int) + (k : Int) := IntWalk.i64_in _ (by omega)
              have x5 := keep_cell S.out.bel (HC.out 5 _ rfl)
              have q0 := S.out.get 2 0 rfl rfl
              have r0 := cell_regrown q0
              have r3 := cell_regrown (keep_cell S.out.bel (HC.out 3 _ rfl))
              have rx := cell_regrown (keep_cell S.out.bel (HC.out 0 _ rfl))
              have ry := cell_regrown (keep_cell S.out.bel HCK.out)
              refine stage_letter fun a0 ha0 => ?_
              have HA0 := Lib.hid ha0
              clear ha0
              have hk := Kn.nil (N := 222) (a := a0) (by rw [← HA0.out]; rfl)
              replace hk := hk.add 1 (v := .func (.yield l) #[] #[]) (by rw [← HA0.out]; rfl)
              replace hk := hk.add 2 (v := .pointer (some ⟨W.heap.size, 0, none⟩)) (by rw [← HA0.out]; rfl)
              replace hk := hk.add 6 (v := I (t.ws.length : Int)) (by rw [← HA0.out]; rfl)
              replace hk := hk.add 8 (v := I ((t.ws.length : Int) + (t.hs.length : Int) + 1)) (by rw [← HA0.out]; rfl)
              replace hk := hk.add 9 (v := .func (.func 102) #[] #[.pointer (some ⟨W.heap.size, 0, none⟩)]) (by rw [← HA0.out]; rfl)
              replace hk := hk.add 12 (v := I (k : Int)) (by rw [← HA0.out]; rfl)
              replace hk := hk.add 13 (v := I n) (by rw [← HA0.out]; rfl)
              refine stage_next ?_
              simp only [opsAt, List.filterMap_cons, List.filterMap_nil, List.getElem?_toArray, List.getElem?_cons_succ, List.getElem?_cons_zero]
              show wpQuiet _ _ _ _ [_, _, _, _, _, _, _, _, _, _, _, _, _, _, _, _, _, _, _] _
              refine kq_move hk _ rfl (hk.look rfl) rfl rfl (wanted_none rfl) ?_
              clear hk
              intro _ hk
              refine kq_val hk (.bool true) rfl rfl (wanted_none rfl) ?_ ?_
              · intro w' hw'
                obtain ⟨p, rfl⟩ := hw'
                have e109 := hk.at_ (i := 109) rfl
                simp [go_sem, e109, hp]
              clear hk
              intro _ hk
              refine kq_move hk _ rfl (hk.look rfl) rfl rfl (wanted_none rfl) ?_
              clear hk
              intro _ hk
              refine kq_move hk _ rfl (hk.look rfl) rfl rfl (wanted_yes hk rfl rfl rfl rfl) ?_
              clear hk
              intro _ hk
              refine kq_move hk _ rfl (hk.look rfl) rfl rfl (wanted_yes hk rfl rfl rfl rfl) ?_
              clear hk
              intro _ hk
              refine kq_move hk _ rfl (hk.look rfl) rfl rfl (wanted_yes hk rfl rfl rfl rfl) ?_
              clear hk
              intro _ hk
              refine kq_val hk (I ((t.ws.length : Int) + (k : Int))) rfl rfl (wanted_yes hk rfl rfl rfl rfl) ?_ ?_
              · intro w' hw'
                obtain ⟨p, rfl⟩ := hw'
                have e113 := hk.at_ (i := 113) rfl
                have e114 := hk.at_ (i := 114) rfl
                simp [go_sem, e113, e114, u5]
              clear hk
              intro _ hk
              refine kq_move hk _ rfl (hk.look rfl) rfl rfl (wanted_yes hk rfl rfl rfl rfl) ?_
              clear hk
              intro _ hk
              refine kq_move hk _ rfl (hk.look rfl) rfl rfl (wanted_yes hk rfl rfl rfl rfl) ?_
              clear hk
              intro _ hk
              refine kq_val hk (I (n - 1)) rfl rfl (wanted_yes hk rfl rfl rfl rfl) ?_ ?_
              · intro w' hw'
                obtain ⟨p, rfl⟩ := hw'
                have e117 := hk.at_ (i := 117) rfl
                simp [go_sem, e117, u1]
              clear hk
              intro _ hk
              refine kq_move hk _ rfl (hk.look rfl) rfl rfl (wanted_yes hk rfl rfl rfl rfl) ?_
              clear hk
              intro _ hk
              refine kq_move hk _ rfl (hk.look rfl) rfl rfl (wanted_yes hk rfl rfl rfl rfl) ?_
              clear hk
              intro _ hk
              refine kq_move hk _ rfl (hk.look rfl) rfl rfl (wanted_yes hk rfl rfl rfl rfl) ?_
              clear hk
              intro _ hk
              refine kq_val hk (.pointer (some ⟨B, 0, none⟩)) rfl rfl (wanted_yes hk rfl rfl rfl rfl) ?_ ?_
              · intro w' hw'
                obtain ⟨p, rfl⟩ := hw'
                have e2 := hk.at_ (i := 2) rfl
                simp [go_sem, e2, r0]
              clear hk
              intro _ hk
              refine kq_val hk (.pointer (some ⟨B, 0, none⟩)) rfl rfl (wanted_yes hk rfl rfl rfl rfl) ?_ ?_
              · intro w' hw'
                obtain ⟨p, rfl⟩ := hw'
                have e125 := hk.at_ (i := 125) rfl
                simp [go_sem, e125]
              clear hk
              intro _ hk
              refine kq_val hk (.pointer (some ⟨B, 3, none⟩)) rfl rfl (wanted_yes hk rfl rfl rfl rfl) ?_ ?_
              · intro w' hw'
                obtain ⟨p, rfl⟩ := hw'
                have e126 := hk.at_ (i := 126) rfl
                simp [go_sem, e126]
              clear hk
              intro _ hk
              refine kq_val hk (.pointer (some ⟨B, 3, none⟩)) rfl rfl (wanted_yes hk rfl rfl rfl rfl) ?_ ?_
              · intro w' hw'
                obtain ⟨p, rfl⟩ := hw'
                have e127 := hk.at_ (i := 127) rfl
                simp [go_sem, e127]
              clear hk
              intro _ hk
              refine kq_val hk (I (-1)) rfl rfl (wanted_yes hk rfl rfl rfl rfl) ?_ ?_
              · intro w' hw'
                obtain ⟨p, rfl⟩ := hw'
                have e128 := hk.at_ (i := 128) rfl
                simp [go_sem, e128, r3]
              clear hk
              intro _ hk
              refine kq_val hk (.bool false) rfl rfl (wanted_yes hk rfl rfl rfl rfl) ?_ ?_
              · intro w' hw'
                obtain ⟨p, rfl⟩ := hw'
                have e124 := hk.at_ (i := 124) rfl
                have e129 := hk.at_ (i := 129) rfl
                simp [go_sem, e124, e129, hkm]
              clear hk
              intro _ hk
              refine wpQuiet_nil ?_
              intro K hK
              refine kl_call hk (f := 103) (vs := #[I (n - 1)]) rfl (wanted_yes hk rfl rfl rfl rfl) rfl rfl ?_ ?_
              · skip
                have e118 := hk.at_ (i := 118) rfl
                simp [go_sem, e118]
              refine (dear_any _ _ (by omega)).mono ?_
              rintro e w2 ⟨rfl, hw⟩
              subst hw
              refine ⟨_, rfl, ?_⟩
              clear hk
              intro _ hk
              refine hK _ _ (Below.refl _ _) ?_
              clear hK K
              refine stage_next ?_
              simp only [opsAt, List.filterMap_nil]
              refine wpQuiet_nil ?_
              intro K hK
              refine kl_call hk (f := 103) (vs := #[I n]) rfl (wanted_yes hk rfl rfl rfl rfl) rfl rfl ?_ ?_
              · skip
                have e120 := hk.at_ (i := 120) rfl
                simp [go_sem, e120]
              refine (dear_any _ _ (by omega)).mono ?_
              rintro e w2 ⟨rfl, hw⟩
              subst hw
              refine ⟨_, rfl, ?_⟩
              clear hk
              intro _ hk
              refine hK _ _ (Below.refl _ _) ?_
              clear hK K
              refine stage_next ?_
              simp only [opsAt, List.filterMap_cons, List.filterMap_nil, List.getElem?_toArray, List.getElem?_cons_succ, List.getElem?_cons_zero]
              show wpQuiet _ _ _ _ [_] _
              refine kq_val hk (I (Bk.dear (n - 1) - Bk.dear n)) rfl rfl (wanted_yes hk rfl rfl rfl rfl) ?_ ?_
              · intro w' hw'
                obtain ⟨p, rfl⟩ := hw'
                have e119 := hk.at_ (i := 119) rfl
                have e121 := hk.at_ (i := 121) rfl
                simp [go_sem, e119, e121, u3]
              clear hk
              intro _ hk
              refine wpQuiet_nil ?_
              intro K hK
              refine kl_call hk (f := 102) (vs := #[.bool false, .pointer (some ⟨W.heap.size, 0, none⟩)]) rfl (wanted_yes hk rfl rfl rfl rfl) rfl rfl ?_ ?_
              · skip
                have e123 := hk.at_ (i := 123) rfl
                have e130 := hk.at_ (i := 130) rfl
                simp [go_sem, e123, e130]
              refine (bonus0_any _ _ B _ q0 x5).mono ?_
              rintro e w2 ⟨rfl, hw⟩
              subst hw
              refine ⟨_, rfl, ?_⟩
              clear hk
              intro _ hk
              refine hK _ _ (Below.refl _ _) ?_
              clear hK K
              refine stage_last ?_
              simp only [opsAt, List.filterMap_cons, List.filterMap_nil, List.getElem?_toArray, List.getElem?_cons_succ, List.getElem?_cons_zero]
              show wpQuiet _ _ _ _ [_, _] _
              refine kq_val hk (I (Bk.dear (n - 1) - Bk.dear n)) rfl rfl (wanted_yes hk rfl rfl rfl rfl) ?_ ?_
              · intro w' hw'
                obtain ⟨p, rfl⟩ := hw'
                have e122 := hk.at_ (i := 122) rfl
                have e131 := hk.at_ (i := 131) rfl
                simp [go_sem, e122, e131, u3]
              clear hk
              intro _ hk
              refine kq_val hk (.agg #[I ((t.ws.length : Int) + (k : Int)), I ((t.ws.length : Int) + (t.hs.length : Int) + 1), I (Bk.dear (n - 1) - Bk.dear n), I (-1), I 0]) rfl rfl (wanted_yes hk rfl rfl rfl rfl) ?_ ?_
              · intro w' hw'
                obtain ⟨p, rfl⟩ := hw'
                have e115 := hk.at_ (i := 115) rfl
                have e116 := hk.at_ (i := 116) rfl
                have e132 := hk.at_ (i := 132) rfl
                simp [go_sem, e115, e116, e132]
              clear hk
              intro _ hk
              refine wpQuiet_nil ?_
              intro K hK
              have hY1 := HY.out _ ⟨t.ws.length + k, t.ws.length + t.hs.length + 1, Bk.dear (n - 1) - Bk.dear n, -1, 0⟩ _ hJs.out (Bk.pre_one HPRE.out HA.out)
              dsimp only [encA, arcCells] at hY1
              simp only [Int.natCast_add, Int.natCast_one] at hY1
              refine kl_yield hk rfl (wanted_yes hk rfl rfl rfl rfl) rfl rfl rfl (hk.look rfl) (hk.look rfl) hY1 ?_
              clear hY1
              rintro e W3 (⟨rfl, hJ3, hk3⟩ | ⟨rfl, hJx3⟩)
              · refine ⟨_, rfl, ?_⟩
                clear hk
                intro _ hk
                refine hK _ _ ?_
                clear hK K
                have S := Lib.hid (S.out.kpX (by rw [HB0.out]; exact hk3) (by simp [Item.cel]) (HDIS.out))
                clear hk3
                clear x5 q0 r0 r3 rx ry
                have x5 := keep_cell S.out.bel (HC.out 5 _ rfl)
                have q0 := S.out.get 2 0 rfl rfl
                have r0 := cell_regrown q0
                have r3 := cell_regrown (keep_cell S.out.bel (HC.out 3 _ rfl))
                have rx := cell_regrown (keep_cell S.out.bel (HC.out 0 _ rfl))
                have ry := cell_regrown (keep_cell S.out.bel HCK.out)
                refine stage_next ?_
                simp only [opsAt, List.filterMap_cons, List.filterMap_nil, List.getElem?_toArray, List.getElem?_cons_succ, List.getElem?_cons_zero]
                show wpQuiet _ _ _ _ [_, _, _, _, _, _, _, _, _, _, _, _, _, _, _, _, _, _, _, _, _, _, _, _, _, _, _, _, _, _] _
                refine kq_val hk (.bool false) rfl rfl (wanted_yes hk rfl rfl rfl rfl) ?_ ?_
                · intro w' hw'
                  obtain ⟨p, rfl⟩ := hw'
                  have e134 := hk.at_ (i := 134) rfl
                  simp [go_sem, e134]
                clear hk
                intro _ hk
                refine kq_val hk (.bool false) rfl rfl (wanted_none rfl) ?_ ?_
                · intro w' hw'
                  obtain ⟨p, rfl⟩ := hw'
                  have e111 := hk.at_ (i := 111) rfl
                  have e135 := hk.at_ (i := 135) rfl
                  simp [go_sem, e111, e135]
                clear hk
                intro _ hk
                refine kq_move hk _ rfl (hk.look rfl) rfl rfl (wanted_none rfl) ?_
                clear hk
                intro _ hk
                refine kq_move hk _ rfl (hk.look rfl) rfl rfl (wanted_yes hk rfl rfl rfl rfl) ?_
                clear hk
                intro _ hk
                refine kq_val hk (.pointer (some ⟨B, 0, none⟩)) rfl rfl (wanted_yes hk rfl rfl rfl rfl) ?_ ?_
                · intro w' hw'
                  obtain ⟨p, rfl⟩ := hw'
                  have e2 := hk.at_ (i := 2) rfl
                  simp [go_sem, e2, r0]
                clear hk
                intro _ hk
                refine kq_val hk (.pointer (some ⟨B, 0, none⟩)) rfl rfl (wanted_yes hk rfl rfl rfl rfl) ?_ ?_
                · intro w' hw'
                  obtain ⟨p, rfl⟩ := hw'
                  have e139 := hk.at_ (i := 139) rfl
                  simp [go_sem, e139]
                clear hk
                intro _ hk
                refine kq_val hk (.pointer (some ⟨B, 0, none⟩)) rfl rfl (wanted_yes hk rfl rfl rfl rfl) ?_ ?_
                · intro w' hw'
                  obtain ⟨p, rfl⟩ := hw'
                  have e140 := hk.at_ (i := 140) rfl
                  simp [go_sem, e140]
                clear hk
                intro _ hk
                refine kq_val hk (.pointer (some ⟨B, 0, none⟩)) rfl rfl (wanted_yes hk rfl rfl rfl rfl) ?_ ?_
                · intro w' hw'
                  obtain ⟨p, rfl⟩ := hw'
                  have e141 := hk.at_ (i := 141) rfl
                  simp [go_sem, e141]
                clear hk
                intro _ hk
                refine kq_val hk (.slice (some ⟨bw, ow, none⟩) t.hs.length c1) rfl rfl (wanted_yes hk rfl rfl rfl rfl) ?_ ?_
                · intro w' hw'
                  obtain ⟨p, rfl⟩ := hw'
                  have e142 := hk.at_ (i := 142) rfl
                  simp [go_sem, e142, rx]
                clear hk
                intro _ hk
                refine kq_move hk _ rfl (hk.look rfl) rfl rfl (wanted_yes hk rfl rfl rfl rfl) ?_
                clear hk
                intro _ hk
                refine kq_val hk (.pointer (some ⟨bw, ow + k, none⟩)) rfl rfl (wanted_yes hk rfl rfl rfl rfl) ?_ ?_
                · intro w' hw'
                  obtain ⟨p, rfl⟩ := hw'
                  have e143 := hk.at_ (i := 143) rfl
                  have e144 := hk.at_ (i := 144) rfl
                  simp [go_sem, e143, e144, hki]
                clear hk
                intro _ hk
                refine kq_val hk (I wk) rfl rfl (wanted_yes hk rfl rfl rfl rfl) ?_ ?_
                · intro w' hw'
                  obtain ⟨p, rfl⟩ := hw'
                  have e145 := hk.at_ (i := 145) rfl
                  simp [go_sem, e145, ry]
                clear hk
                intro _ hk
                refine kq_val hk (.bool false) rfl rfl (wanted_yes hk rfl rfl rfl rfl) ?_ ?_
                · intro w' hw'
                  obtain ⟨p, rfl⟩ := hw'
                  have e138 := hk.at_ (i := 138) rfl
                  have e146 := hk.at_ (i := 146) rfl
                  simp [go_sem, e138, e146, hq]
                clear hk
                intro _ hk
                refine kq_move hk _ rfl (hk.look rfl) rfl rfl (wanted_yes hk rfl rfl rfl rfl) ?_
                clear hk
                intro _ hk
                refine kq_skip hk rfl rfl rfl rfl rfl rfl ?_
                clear hk
                intro _ hk
                refine kq_skip hk rfl rfl rfl rfl rfl rfl ?_
                clear hk
                intro _ hk
                refine kq_skip hk rfl rfl rfl rfl rfl rfl ?_
                clear hk
                intro _ hk
                refine kq_skip hk rfl rfl rfl rfl rfl rfl ?_
                clear hk
                intro _ hk
                refine kq_skip hk rfl rfl rfl rfl rfl rfl ?_
                clear hk
                intro _ hk
                refine kq_skip hk rfl rfl rfl rfl rfl rfl ?_
                clear hk
                intro _ hk
                refine kq_skip hk rfl rfl rfl rfl rfl rfl ?_
                clear hk
                intro _ hk
                refine kq_skip hk rfl rfl rfl rfl rfl rfl ?_
                clear hk
                intro _ hk
                refine kq_skip hk rfl rfl rfl rfl rfl rfl ?_
                clear hk
                intro _ hk
                refine kq_skip hk rfl rfl rfl rfl rfl rfl ?_
                clear hk
                intro _ hk
                refine kq_skip hk rfl rfl rfl rfl rfl rfl ?_
                clear hk
                intro _ hk
                refine kq_skip hk rfl rfl rfl rfl rfl rfl ?_
                clear hk
                intro _ hk
                refine kq_skip hk rfl rfl rfl rfl rfl rfl ?_
                clear hk
                intro _ hk
                refine kq_skip hk rfl rfl rfl rfl rfl rfl ?_
                clear hk
                intro _ hk
                refine kq_skip hk rfl rfl rfl rfl rfl rfl ?_
                clear hk
                intro _ hk
                refine kq_skip hk rfl rfl rfl rfl rfl rfl ?_
                clear hk
                intro _ hk
                refine wpQuiet_nil ?_
                intro K hK
                refine kl_skip hk rfl rfl rfl rfl rfl rfl rfl ?_
                clear hk
                intro _ hk
                refine hK _ _ (Below.refl _ _) ?_
                clear hK K
                refine stage_next ?_
                simp only [opsAt, List.filterMap_nil]
                refine wpQuiet_nil ?_
                intro K hK
                refine kl_skip hk rfl rfl rfl rfl rfl rfl rfl ?_
                clear hk
                intro _ hk
                refine hK _ _ (Below.refl _ _) ?_
                clear hK K
                refine stage_next ?_
                simp only [opsAt, List.filterMap_cons, List.filterMap_nil, List.getElem?_toArray, List.getElem?_cons_succ, List.getElem?_cons_zero]
                show wpQuiet _ _ _ _ [_] _
                refine kq_skip hk rfl rfl rfl rfl rfl rfl ?_
                clear hk
                intro _ hk
                refine wpQuiet_nil ?_
                intro K hK
                refine kl_skip hk rfl rfl rfl rfl rfl rfl rfl ?_
                clear hk
                intro _ hk
                refine hK _ _ (Below.refl _ _) ?_
                clear hK K
                refine stage_last ?_
                simp only [opsAt, List.filterMap_cons, List.filterMap_nil, List.getElem?_toArray, List.getElem?_cons_succ, List.getElem?_cons_zero]
                show wpQuiet _ _ _ _ [_, _] _
                refine kq_skip hk rfl rfl rfl rfl rfl rfl ?_
                clear hk
                intro _ hk
                refine kq_skip hk rfl rfl rfl rfl rfl rfl ?_
                clear hk
                intro _ hk
                refine wpQuiet_nil ?_
                intro K hK
                refine kl_skip hk rfl rfl rfl rfl rfl rfl rfl ?_
                clear hk
                intro _ hk
                refine hK _ _ ?_
                clear hK K
                refine quiet_cls ?_
                show wpQuiet _ _ _ _ [_, _, _] _
                refine kq_skip hk rfl rfl rfl rfl rfl rfl ?_
                clear hk
                intro _ hk
                refine kq_val hk (.bool false) rfl rfl (wanted_yes hk rfl rfl rfl rfl) ?_ ?_
                · intro w' hw'
                  obtain ⟨p, rfl⟩ := hw'
                  have e148 := hk.at_ (i := 148) rfl
                  have e172 := hk.at_ (i := 172) rfl
                  simp [go_sem, e148, e172]
                clear hk
                intro _ hk
                refine kq_val hk (.bool false) rfl rfl (wanted_none rfl) ?_ ?_
                · intro w' hw'
                  obtain ⟨p, rfl⟩ := hw'
                  have e137 := hk.at_ (i := 137) rfl
                  have e173 := hk.at_ (i := 173) rfl
                  simp [go_sem, e137, e173]
                clear hk
                intro _ hk
                refine wpQuiet_nil ?_
                refine hKQ _ _ ?_
                clear hKQ KQ
                have ea := hk.is
                rw [← HA0.out] at ea
                simp only [puts, Act.put, List.setIfInBounds_toArray, List.set_cons_succ, List.set_cons_zero] at ea
                subst ea
                clear hk HA0
                gi_wp2_with (refine wpListIn_skip rfl rfl ?_; go_simp)
                go_roundw
                case rel => exact ⟨k + 1, by omega, by go_num, Lib.hid (by rw [HE.out, HA.out]; have := hJ3; simpa [List.append_assoc] using this), S⟩
                case measure => first | (simp [intOf]; done) | (simp [intOf]; omega)
              · refine ⟨_, rfl, ?_⟩
                clear hk
                intro _ hk
                refine hK _ _ ?_
                clear hK K
                refine stage_next ?_
                simp only [opsAt, List.filterMap_cons, List.filterMap_nil, List.getElem?_toArray, List.getElem?_cons_succ, List.getElem?_cons_zero]
                show wpQuiet _ _ _ _ [_, _, _, _, _, _, _, _, _, _, _, _, _, _, _, _, _, _, _, _, _, _, _, _, _, _, _, _, _, _] _
                refine kq_val hk (.bool true) rfl rfl (wanted_yes hk rfl rfl rfl rfl) ?_ ?_
                · intro w' hw'
                  obtain ⟨p, rfl⟩ := hw'
                  have e134 := hk.at_ (i := 134) rfl
                  simp [go_sem, e134]
                clear hk
                intro _ hk
                refine kq_val hk (.bool true) rfl rfl (wanted_none rfl) ?_ ?_
                · intro w' hw'
                  obtain ⟨p, rfl⟩ := hw'
                  have e111 := hk.at_ (i := 111) rfl
                  have e135 := hk.at_ (i := 135) rfl
                  simp [go_sem, e111, e135]
                clear hk
                intro _ hk
                refine kq_move hk _ rfl (hk.look rfl) rfl rfl (wanted_none rfl) ?_
                clear hk
                intro _ hk
                refine kq_skip hk rfl rfl rfl rfl rfl rfl ?_
                clear hk
                intro _ hk
                refine kq_skip hk rfl rfl rfl rfl rfl rfl ?_
                clear hk
                intro _ hk
                refine kq_skip hk rfl rfl rfl rfl rfl rfl ?_
                clear hk
                intro _ hk
                refine kq_skip hk rfl rfl rfl rfl rfl rfl ?_
                clear hk
                intro _ hk
                refine kq_skip hk rfl rfl rfl rfl rfl rfl ?_
                clear hk
                intro _ hk
                refine kq_skip hk rfl rfl rfl rfl rfl rfl ?_
                clear hk
                intro _ hk
                refine kq_skip hk rfl rfl rfl rfl rfl rfl ?_
                clear hk
                intro _ hk
                refine kq_skip hk rfl rfl rfl rfl rfl rfl ?_
                clear hk
                intro _ hk
                refine kq_skip hk rfl rfl rfl rfl rfl rfl ?_
                clear hk
                intro _ hk
                refine kq_skip hk rfl rfl rfl rfl rfl rfl ?_
                clear hk
                intro _ hk
                refine kq_skip hk rfl rfl rfl rfl rfl rfl ?_
                clear hk
                intro _ hk
                refine kq_skip hk rfl rfl rfl rfl rfl rfl ?_
                clear hk
                intro _ hk
                refine kq_skip hk rfl rfl rfl rfl rfl rfl ?_
                clear hk
                intro _ hk
                refine kq_skip hk rfl rfl rfl rfl rfl rfl ?_
                clear hk
                intro _ hk
                refine kq_skip hk rfl rfl rfl rfl rfl rfl ?_
                clear hk
                intro _ hk
                refine kq_skip hk rfl rfl rfl rfl rfl rfl ?_
                clear hk
                intro _ hk
                refine kq_skip hk rfl rfl rfl rfl rfl rfl ?_
                clear hk
                intro _ hk
                refine kq_skip hk rfl rfl rfl rfl rfl rfl ?_
                clear hk
                intro _ hk
                refine kq_skip hk rfl rfl rfl rfl rfl rfl ?_
                clear hk
                intro _ hk
                refine kq_skip hk rfl rfl rfl rfl rfl rfl ?_
                clear hk
                intro _ hk
                refine kq_skip hk rfl rfl rfl rfl rfl rfl ?_
                clear hk
                intro _ hk
                refine kq_skip hk rfl rfl rfl rfl rfl rfl ?_
                clear hk
                intro _ hk
                refine kq_skip hk rfl rfl rfl rfl rfl rfl ?_
                clear hk
                intro _ hk
                refine kq_skip hk rfl rfl rfl rfl rfl rfl ?_
                clear hk
                intro _ hk
                refine kq_skip hk rfl rfl rfl rfl rfl rfl ?_
                clear hk
                intro _ hk
                refine kq_skip hk rfl rfl rfl rfl rfl rfl ?_
                clear hk
                intro _ hk
                refine kq_skip hk rfl rfl rfl rfl rfl rfl ?_
                clear hk
                intro _ hk
                refine wpQuiet_nil ?_
                intro K hK
                refine kl_skip hk rfl rfl rfl rfl rfl rfl rfl ?_
                clear hk
                intro _ hk
                refine hK _ _ (Below.refl _ _) ?_
                clear hK K
                refine stage_next ?_
                simp only [opsAt, List.filterMap_nil]
                refine wpQuiet_nil ?_
                intro K hK
                refine kl_skip hk rfl rfl rfl rfl rfl rfl rfl ?_
                clear hk
                intro _ hk
                refine hK _ _ (Below.refl _ _) ?_
                clear hK K
                refine stage_next ?_
                simp only [opsAt, List.filterMap_cons, List.filterMap_nil, List.getElem?_toArray, List.getElem?_cons_succ, List.getElem?_cons_zero]
                show wpQuiet _ _ _ _ [_] _
                refine kq_skip hk rfl rfl rfl rfl rfl rfl ?_
                clear hk
                intro _ hk
                refine wpQuiet_nil ?_
                intro K hK
                refine kl_skip hk rfl rfl rfl rfl rfl rfl rfl ?_
                clear hk
                intro _ hk
                refine hK _ _ (Below.refl _ _) ?_
                clear hK K
                refine stage_last ?_
                simp only [opsAt, List.filterMap_cons, List.filterMap_nil, List.getElem?_toArray, List.getElem?_cons_succ, List.getElem?_cons_zero]
                show wpQuiet _ _ _ _ [_, _] _
                refine kq_skip hk rfl rfl rfl rfl rfl rfl ?_
                clear hk
                intro _ hk
                refine kq_skip hk rfl rfl rfl rfl rfl rfl ?_
                clear hk
                intro _ hk
                refine wpQuiet_nil ?_
                intro K hK
                refine kl_skip hk rfl rfl rfl rfl rfl rfl rfl ?_
                clear hk
                intro _ hk
                refine hK _ _ ?_
                clear hK K
                refine quiet_cls ?_
                show wpQuiet _ _ _ _ [_, _, _] _
                refine kq_skip hk rfl rfl rfl rfl rfl rfl ?_
                clear hk
                intro _ hk
                refine kq_skip hk rfl rfl rfl rfl rfl rfl ?_
                clear hk
                intro _ hk
                refine kq_val hk (.bool true) rfl rfl (wanted_none rfl) ?_ ?_
                · intro w' hw'
                  obtain ⟨p, rfl⟩ := hw'
                  have e137 := hk.at_ (i := 137) rfl
                  have e173 := hk.at_ (i := 173) rfl
                  simp [go_sem, e137, e173]
                clear hk
                intro _ hk
                refine wpQuiet_nil ?_
                refine hKQ _ _ ?_
                clear hKQ KQ
                have ea := hk.is
                rw [← HA0.out] at ea
                simp only [puts, Act.put, List.setIfInBounds_toArray, List.set_cons_succ, List.set_cons_zero] at ea
                subst ea
                clear hk HA0
                gi_wp2_with (refine wpListIn_skip rfl rfl ?_; go_simp)
                refine bodyPost_ret (results_none rfl _ _ _) rfl ?_
                first
                  | exact ⟨⟨_, rfl⟩, .inr ⟨_, trivial, hJx3⟩⟩
                  | exact ⟨⟨_, rfl⟩, .inr ⟨_, hJx3⟩⟩
          · by_cases hq : n < wk
            · have HA := Lib.hid (show Bk.arcsH t.bt d k = [⟨t.ws.length + t.hs.length + 1, t.ws.length + k, Bk.dear (n + 1) - Bk.dear n, -1, 0⟩] by rw [HAW.out, if_neg hp, if_pos hq]; rfl)
              have hp' : n ≤ 0 := by omega
              have e6 := Bk.dear_le (show n + 1 ≤ 9 by omega)
              have u4 : IntKind.i64.wrap (Bk.dear (n + 1) - Bk.dear n) = Bk.dear (n + 1) - Bk.dear n := IntWalk.i64_in _ (by omega)
              have hkm : ¬ ((k : Int) = -1) := by omega
              have u5 : IntKind.i64.wrap ((t.ws.length : Int) + (k : Int)) = (t.ws.length : Int) + (k : Int) := IntWalk.i64_in _ (by omega)
              have x5 := keep_cell S.out.bel (HC.out 5 _ rfl)
              have q0 := S.out.get 2 0 rfl rfl
              have r0 := cell_regrown q0
              have r3 := cell_regrown (keep_cell S.out.bel (HC.out 3 _ rfl))
              have rx := cell_regrown (keep_cell S.out.bel (HC.out 0 _ rfl))
              have ry := cell_regrown (keep_cell S.out.bel HCK.out)
              refine stage_letter fun a0 ha0 => ?_
              have HA0 := Lib.hid ha0
              clear ha0
              have hk := Kn.nil (N := 222) (a := a0) (by rw [← HA0.out]; rfl)
              replace hk := hk.add 1 (v := .func (.yield l) #[] #[]) (by rw [← HA0.out]; rfl)
              replace hk := hk.add 2 (v := .pointer (some ⟨W.heap.size, 0, none⟩)) (by rw [← HA0.out]; rfl)
              replace hk := hk.add 6 (v := I (t.ws.length : Int)) (by rw [← HA0.out]; rfl)
              replace hk := hk.add 8 (v := I ((t.ws.length : Int) + (t.hs.length : Int) + 1)) (by rw [← HA0.out]; rfl)
              replace hk := hk.add 9 (v := .func (.func 102) #[] #[.pointer (some ⟨W.heap.size, 0, none⟩)]) (by rw [← HA0.out]; rfl)
              replace hk := hk.add 12 (v := I (k : Int)) (by rw [← HA0.out]; rfl)
              replace hk := hk.add 13 (v := I n) (by rw [← HA0.out]; rfl)
              refine stage_next ?_
              simp only [opsAt, List.filterMap_cons, List.filterMap_nil, List.getElem?_toArray, List.getElem?_cons_succ, List.getElem?_cons_zero]
              show wpQuiet _ _ _ _ [_, _, _, _, _, _, _, _, _, _, _, _, _, _, _, _, _, _, _] _
              refine kq_move hk _ rfl (hk.look rfl) rfl rfl (wanted_none rfl) ?_
              clear hk
              intro _ hk
              refine kq_val hk (.bool false) rfl rfl (wanted_none rfl) ?_ ?_
              · intro w' hw'
                obtain ⟨p, rfl⟩ := hw'
                have e109 := hk.at_ (i := 109) rfl
                simp [go_sem, e109, hp]
              clear hk
              intro _ hk
              refine kq_move hk _ rfl (hk.look rfl) rfl rfl (wanted_none rfl) ?_
              clear hk
              intro _ hk
              refine kq_skip hk rfl rfl rfl rfl rfl rfl ?_
              clear hk
              intro _ hk
              refine kq_skip hk rfl rfl rfl rfl rfl rfl ?_
              clear hk
              intro _ hk
              refine kq_skip hk rfl rfl rfl rfl rfl rfl ?_
              clear hk
              intro _ hk
              refine kq_skip hk rfl rfl rfl rfl rfl rfl ?_
              clear hk
              intro _ hk
              refine kq_skip hk rfl rfl rfl rfl rfl rfl ?_
              clear hk
              intro _ hk
              refine kq_skip hk rfl rfl rfl rfl rfl rfl ?_
              clear hk
              intro _ hk
              refine kq_skip hk rfl rfl rfl rfl rfl rfl ?_
              clear hk
              intro _ hk
              refine kq_skip hk rfl rfl rfl rfl rfl rfl ?_
              clear hk
              intro _ hk
              refine kq_skip hk rfl rfl rfl rfl rfl rfl ?_
              clear hk
              intro _ hk
              refine kq_skip hk rfl rfl rfl rfl rfl rfl ?_
              clear hk
              intro _ hk
              refine kq_skip hk rfl rfl rfl rfl rfl rfl ?_
              clear hk
              intro _ hk
              refine kq_skip hk rfl rfl rfl rfl rfl rfl ?_
              clear hk
              intro _ hk
              refine kq_skip hk rfl rfl rfl rfl rfl rfl ?_
              clear hk
              intro _ hk
              refine kq_skip hk rfl rfl rfl rfl rfl rfl ?_
              clear hk
              intro _ hk
              refine kq_skip hk rfl rfl rfl rfl rfl rfl ?_
              clear hk
              intro _ hk
              refine kq_skip hk rfl rfl rfl rfl rfl rfl ?_
              clear hk
              intro _ hk
              refine wpQuiet_nil ?_
              intro K hK
              refine kl_skip hk rfl rfl rfl rfl rfl rfl rfl ?_
              clear hk
              intro _ hk
              refine hK _ _ (Below.refl _ _) ?_
              clear hK K
              refine stage_next ?_
              simp only [opsAt, List.filterMap_nil]
              refine wpQuiet_nil ?_
              intro K hK
              refine kl_skip hk rfl rfl rfl rfl rfl rfl rfl ?_
              clear hk
              intro _ hk
              refine hK _ _ (Below.refl _ _) ?_
              clear hK K
              refine stage_next ?_
              simp only [opsAt, List.filterMap_cons, List.filterMap_nil, List.getElem?_toArray, List.getElem?_cons_succ, List.getElem?_cons_zero]
              show wpQuiet _ _ _ _ [_] _
              refine kq_skip hk rfl rfl rfl rfl rfl rfl ?_
              clear hk
              intro _ hk
              refine wpQuiet_nil ?_
              intro K hK
              refine kl_skip hk rfl rfl rfl rfl rfl rfl rfl ?_
              clear hk
              intro _ hk
              refine hK _ _ (Below.refl _ _) ?_
              clear hK K
              refine stage_last ?_
              simp only [opsAt, List.filterMap_cons, List.filterMap_nil, List.getElem?_toArray, List.getElem?_cons_succ, List.getElem?_cons_zero]
              show wpQuiet _ _ _ _ [_, _] _
              refine kq_skip hk rfl rfl rfl rfl rfl rfl ?_
              clear hk
              intro _ hk
              refine kq_skip hk rfl rfl rfl rfl rfl rfl ?_
              clear hk
              intro _ hk
              refine wpQuiet_nil ?_
              intro K hK
              refine kl_skip hk rfl rfl rfl rfl rfl rfl rfl ?_
              clear hk
              intro _ hk
              refine hK _ _ ?_
              clear hK K
              clear x5 q0 r0 r3 rx ry
              have x5 := keep_cell S.out.bel (HC.out 5 _ rfl)
              have q0 := S.out.get 2 0 rfl rfl
              have r0 := cell_regrown q0
              have r3 := cell_regrown (keep_cell S.out.bel (HC.out 3 _ rfl))
              have rx := cell_regrown (keep_cell S.out.bel (HC.out 0 _ rfl))
              have ry := cell_regrown (keep_cell S.out.bel HCK.out)
              refine stage_next ?_
              simp only [opsAt, List.filterMap_cons, List.filterMap_nil, List.getElem?_toArray, List.getElem?_cons_succ, List.getElem?_cons_zero]
              show wpQuiet _ _ _ _ [_, _, _, _, _, _, _, _, _, _, _, _, _, _, _, _, _, _, _, _, _, _, _, _, _, _, _, _, _, _] _
              refine kq_skip hk rfl rfl rfl rfl rfl rfl ?_
              clear hk
              intro _ hk
              refine kq_val hk (.bool false) rfl rfl (wanted_none rfl) ?_ ?_
              · intro w' hw'
                obtain ⟨p, rfl⟩ := hw'
                have e111 := hk.at_ (i := 111) rfl
                have e135 := hk.at_ (i := 135) rfl
                simp [go_sem, e111, e135]
              clear hk
              intro _ hk
              refine kq_move hk _ rfl (hk.look rfl) rfl rfl (wanted_none rfl) ?_
              clear hk
              intro _ hk
              refine kq_move hk _ rfl (hk.look rfl) rfl rfl (wanted_yes hk rfl rfl rfl rfl) ?_
              clear hk
              intro _ hk
              refine kq_val hk (.pointer (some ⟨B, 0, none⟩)) rfl rfl (wanted_yes hk rfl rfl rfl rfl) ?_ ?_
              · intro w' hw'
                obtain ⟨p, rfl⟩ := hw'
                have e2 := hk.at_ (i := 2) rfl
                simp [go_sem, e2, r0]
              clear hk
              intro _ hk
              refine kq_val hk (.pointer (some ⟨B, 0, none⟩)) rfl rfl (wanted_yes hk rfl rfl rfl rfl) ?_ ?_
              · intro w' hw'
                obtain ⟨p, rfl⟩ := hw'
                have e139 := hk.at_ (i := 139) rfl
                simp [go_sem, e139]
              clear hk
              intro _ hk
              refine kq_val hk (.pointer (some ⟨B, 0, none⟩)) rfl rfl (wanted_yes hk rfl rfl rfl rfl) ?_ ?_
              · intro w' hw'
                obtain ⟨p, rfl⟩ := hw'
                have e140 := hk.at_ (i := 140) rfl
                simp [go_sem, e140]
              clear hk
              intro _ hk
              refine kq_val hk (.pointer (some ⟨B, 0, none⟩)) rfl rfl (wanted_yes hk rfl rfl rfl rfl) ?_ ?_
              · intro w' hw'
                obtain ⟨p, rfl⟩ := hw'
                have e141 := hk.at_ (i := 141) rfl
                simp [go_sem, e141]
              clear hk
              intro _ hk
              refine kq_val hk (.slice (some ⟨bw, ow, none⟩) t.hs.length c1) rfl rfl (wanted_yes hk rfl rfl rfl rfl) ?_ ?_
              · intro w' hw'
                obtain ⟨p, rfl⟩ := hw'
                have e142 := hk.at_ (i := 142) rfl
                simp [go_sem, e142, rx]
              clear hk
              intro _ hk
              refine kq_move hk _ rfl (hk.look rfl) rfl rfl (wanted_yes hk rfl rfl rfl rfl) ?_
              clear hk
              intro _ hk
              refine kq_val hk (.pointer (some ⟨bw, ow + k, none⟩)) rfl rfl (wanted_yes hk rfl rfl rfl rfl) ?_ ?_
              · intro w' hw'
                obtain ⟨p, rfl⟩ := hw'
                have e143 := hk.at_ (i := 143) rfl
                have e144 := hk.at_ (i := 144) rfl
                simp [go_sem, e143, e144, hki]
              clear hk
              intro _ hk
              refine kq_val hk (I wk) rfl rfl (wanted_yes hk rfl rfl rfl rfl) ?_ ?_
              · intro w' hw'
                obtain ⟨p, rfl⟩ := hw'
                have e145 := hk.at_ (i := 145) rfl
                simp [go_sem, e145, ry]
              clear hk
              intro _ hk
              refine kq_val hk (.bool true) rfl rfl (wanted_yes hk rfl rfl rfl rfl) ?_ ?_
              · intro w' hw'
                obtain ⟨p, rfl⟩ := hw'
                have e138 := hk.at_ (i := 138) rfl
                have e146 := hk.at_ (i := 146) rfl
                simp [go_sem, e138, e146, hq]
              clear hk
              intro _ hk
              refine kq_move hk _ rfl (hk.look rfl) rfl rfl (wanted_yes hk rfl rfl rfl rfl) ?_
              clear hk
              intro _ hk
              refine kq_move hk _ rfl (hk.look rfl) rfl rfl (wanted_yes hk rfl rfl rfl rfl) ?_
              clear hk
              intro _ hk
              refine kq_move hk _ rfl (hk.look rfl) rfl rfl (wanted_yes hk rfl rfl rfl rfl) ?_
              clear hk
              intro _ hk
              refine kq_move hk _ rfl (hk.look rfl) rfl rfl (wanted_yes hk rfl rfl rfl rfl) ?_
              clear hk
              intro _ hk
              refine kq_move hk _ rfl (hk.look rfl) rfl rfl (wanted_yes hk rfl rfl rfl rfl) ?_
              clear hk
              intro _ hk
              refine kq_val hk (I ((t.ws.length : Int) + (k : Int))) rfl rfl (wanted_yes hk rfl rfl rfl rfl) ?_ ?_
              · intro w' hw'
                obtain ⟨p, rfl⟩ := hw'
                have e151 := hk.at_ (i := 151) rfl
                have e152 := hk.at_ (i := 152) rfl
                simp [go_sem, e151, e152, u5]
              clear hk
              intro _ hk
              refine kq_move hk _ rfl (hk.look rfl) rfl rfl (wanted_yes hk rfl rfl rfl rfl) ?_
              clear hk
              intro _ hk
              refine kq_val hk (I (n + 1)) rfl rfl (wanted_yes hk rfl rfl rfl rfl) ?_ ?_
              · intro w' hw'
                obtain ⟨p, rfl⟩ := hw'
                have e154 := hk.at_ (i := 154) rfl
                simp [go_sem, e154, u2]
              clear hk
              intro _ hk
              refine kq_move hk _ rfl (hk.look rfl) rfl rfl (wanted_yes hk rfl rfl rfl rfl) ?_
              clear hk
              intro _ hk
              refine kq_move hk _ rfl (hk.look rfl) rfl rfl (wanted_yes hk rfl rfl rfl rfl) ?_
              clear hk
              intro _ hk
              refine kq_move hk _ rfl (hk.look rfl) rfl rfl (wanted_yes hk rfl rfl rfl rfl) ?_
              clear hk
              intro _ hk
              refine kq_val hk (.pointer (some ⟨B, 0, none⟩)) rfl rfl (wanted_yes hk rfl rfl rfl rfl) ?_ ?_
              · intro w' hw'
                obtain ⟨p, rfl⟩ := hw'
                have e2 := hk.at_ (i := 2) rfl
                simp [go_sem, e2, r0]
              clear hk
              intro _ hk
              refine kq_val hk (.pointer (some ⟨B, 0, none⟩)) rfl rfl (wanted_yes hk rfl rfl rfl rfl) ?_ ?_
              · intro w' hw'
                obtain ⟨p, rfl⟩ := hw'
                have e162 := hk.at_ (i := 162) rfl
                simp [go_sem, e162]
              clear hk
              intro _ hk
              refine kq_val hk (.pointer (some ⟨B, 3, none⟩)) rfl rfl (wanted_yes hk rfl rfl rfl rfl) ?_ ?_
              · intro w' hw'
                obtain ⟨p, rfl⟩ := hw'
                have e163 := hk.at_ (i := 163) rfl
                simp [go_sem, e163]
              clear hk
              intro _ hk
              refine kq_val hk (.pointer (some ⟨B, 3, none⟩)) rfl rfl (wanted_yes hk rfl rfl rfl rfl) ?_ ?_
              · intro w' hw'
                obtain ⟨p, rfl⟩ := hw'
                have e164 := hk.at_ (i := 164) rfl
                simp [go_sem, e164]
              clear hk
              intro _ hk
              refine kq_val hk (I (-1)) rfl rfl (wanted_yes hk rfl rfl rfl rfl) ?_ ?_
              · intro w' hw'
                obtain ⟨p, rfl⟩ := hw'
                have e165 := hk.at_ (i := 165) rfl
                simp [go_sem, e165, r3]
              clear hk
              intro _ hk
              refine kq_val hk (.bool false) rfl rfl (wanted_yes hk rfl rfl rfl rfl) ?_ ?_
              · intro w' hw'
                obtain ⟨p, rfl⟩ := hw'
                have e161 := hk.at_ (i := 161) rfl
                have e166 := hk.at_ (i := 166) rfl
                simp [go_sem, e161, e166, hkm]
              clear hk
              intro _ hk
              refine wpQuiet_nil ?_
              intro K hK
              refine kl_call hk (f := 103) (vs := #[I (n + 1)]) rfl (wanted_yes hk rfl rfl rfl rfl) rfl rfl ?_ ?_
              · skip
                have e155 := hk.at_ (i := 155) rfl
                simp [go_sem, e155]
              refine (dear_any _ _ (by omega)).mono ?_
              rintro e w2 ⟨rfl, hw⟩
              subst hw
              refine ⟨_, rfl, ?_⟩
              clear hk
              intro _ hk
              refine hK _ _ (Below.refl _ _) ?_
              clear hK K
              refine stage_next ?_
              simp only [opsAt, List.filterMap_nil]
              refine wpQuiet_nil ?_
              intro K hK
              refine kl_call hk (f := 103) (vs := #[I n]) rfl (wanted_yes hk rfl rfl rfl rfl) rfl rfl ?_ ?_
              · skip
                have e157 := hk.at_ (i := 157) rfl
                simp [go_sem, e157]
              refine (dear_any _ _ (by omega)).mono ?_
              rintro e w2 ⟨rfl, hw⟩
              subst hw
              refine ⟨_, rfl, ?_⟩
              clear hk
              intro _ hk
              refine hK _ _ (Below.refl _ _) ?_
              clear hK K
              refine stage_next ?_
              simp only [opsAt, List.filterMap_cons, List.filterMap_nil, List.getElem?_toArray, List.getElem?_cons_succ, List.getElem?_cons_zero]
              show wpQuiet _ _ _ _ [_] _
              refine kq_val hk (I (Bk.dear (n + 1) - Bk.dear n)) rfl rfl (wanted_yes hk rfl rfl rfl rfl) ?_ ?_
              · intro w' hw'
                obtain ⟨p, rfl⟩ := hw'
                have e156 := hk.at_ (i := 156) rfl
                have e158 := hk.at_ (i := 158) rfl
                simp [go_sem, e156, e158, u4]
              clear hk
              intro _ hk
              refine wpQuiet_nil ?_
              intro K hK
              refine kl_call hk (f := 102) (vs := #[.bool false, .pointer (some ⟨W.heap.size, 0, none⟩)]) rfl (wanted_yes hk rfl rfl rfl rfl) rfl rfl ?_ ?_
              · skip
                have e160 := hk.at_ (i := 160) rfl
                have e167 := hk.at_ (i := 167) rfl
                simp [go_sem, e160, e167]
              refine (bonus0_any _ _ B _ q0 x5).mono ?_
              rintro e w2 ⟨rfl, hw⟩
              subst hw
              refine ⟨_, rfl, ?_⟩
              clear hk
              intro _ hk
              refine hK _ _ (Below.refl _ _) ?_
              clear hK K
              refine stage_last ?_
              simp only [opsAt, List.filterMap_cons, List.filterMap_nil, List.getElem?_toArray, List.getElem?_cons_succ, List.getElem?_cons_zero]
              show wpQuiet _ _ _ _ [_, _] _
              refine kq_val hk (I (Bk.dear (n + 1) - Bk.dear n)) rfl rfl (wanted_yes hk rfl rfl rfl rfl) ?_ ?_
              · intro w' hw'
                obtain ⟨p, rfl⟩ := hw'
                have e159 := hk.at_ (i := 159) rfl
                have e168 := hk.at_ (i := 168) rfl
                simp [go_sem, e159, e168, u4]
              clear hk
              intro _ hk
              refine kq_val hk (.agg #[I ((t.ws.length : Int) + (t.hs.length : Int) + 1), I ((t.ws.length : Int) + (k : Int)), I (Bk.dear (n + 1) - Bk.dear n), I (-1), I 0]) rfl rfl (wanted_yes hk rfl rfl rfl rfl) ?_ ?_
              · intro w' hw'
                obtain ⟨p, rfl⟩ := hw'
                have e150 := hk.at_ (i := 150) rfl
                have e153 := hk.at_ (i := 153) rfl
                have e169 := hk.at_ (i := 169) rfl
                simp [go_sem, e150, e153, e169]
              clear hk
              intro _ hk
              refine wpQuiet_nil ?_
              intro K hK
              have hY1 := HY.out _ ⟨t.ws.length + t.hs.length + 1, t.ws.length + k, Bk.dear (n + 1) - Bk.dear n, -1, 0⟩ _ hJs.out (Bk.pre_one HPRE.out HA.out)
              dsimp only [encA, arcCells] at hY1
              simp only [Int.natCast_add, Int.natCast_one] at hY1
              refine kl_yield hk rfl (wanted_yes hk rfl rfl rfl rfl) rfl rfl rfl (hk.look rfl) (hk.look rfl) hY1 ?_
              clear hY1
              rintro e W3 (⟨rfl, hJ3, hk3⟩ | ⟨rfl, hJx3⟩)
              · refine ⟨_, rfl, ?_⟩
                clear hk
                intro _ hk
                refine hK _ _ ?_
                clear hK K
                have S := Lib.hid (S.out.kpX (by rw [HB0.out]; exact hk3) (by simp [Item.cel]) (HDIS.out))
                clear hk3
                refine quiet_cls ?_
                show wpQuiet _ _ _ _ [_, _, _] _
                refine kq_val hk (.bool false) rfl rfl (wanted_yes hk rfl rfl rfl rfl) ?_ ?_
                · intro w' hw'
                  obtain ⟨p, rfl⟩ := hw'
                  have e171 := hk.at_ (i := 171) rfl
                  simp [go_sem, e171]
                clear hk
                intro _ hk
                refine kq_val hk (.bool false) rfl rfl (wanted_yes hk rfl rfl rfl rfl) ?_ ?_
                · intro w' hw'
                  obtain ⟨p, rfl⟩ := hw'
                  have e148 := hk.at_ (i := 148) rfl
                  have e172 := hk.at_ (i := 172) rfl
                  simp [go_sem, e148, e172]
                clear hk
                intro _ hk
                refine kq_val hk (.bool false) rfl rfl (wanted_none rfl) ?_ ?_
                · intro w' hw'
                  obtain ⟨p, rfl⟩ := hw'
                  have e137 := hk.at_ (i := 137) rfl
                  have e173 := hk.at_ (i := 173) rfl
                  simp [go_sem, e137, e173]
                clear hk
                intro _ hk
                refine wpQuiet_nil ?_
                refine hKQ _ _ ?_
                clear hKQ KQ
                have ea := hk.is
                rw [← HA0.out] at ea
                simp only [puts, Act.put, List.setIfInBounds_toArray, List.set_cons_succ, List.set_cons_zero] at ea
                subst ea
                clear hk HA0
                gi_wp2_with (refine wpListIn_skip rfl rfl ?_; go_simp)
                go_roundw
                case rel => exact ⟨k + 1, by omega, by go_num, Lib.hid (by rw [HE.out, HA.out]; have := hJ3; simpa [List.append_assoc] using this), S⟩
                case measure => first | (simp [intOf]; done) | (simp [intOf]; omega)
              · refine ⟨_, rfl, ?_⟩
                clear hk
                intro _ hk
                refine hK _ _ ?_
                clear hK K
                refine quiet_cls ?_
                show wpQuiet _ _ _ _ [_, _, _] _
                refine kq_val hk (.bool true) rfl rfl (wanted_yes hk rfl rfl rfl rfl) ?_ ?_
                · intro w' hw'
                  obtain ⟨p, rfl⟩ := hw'
                  have e171 := hk.at_ (i := 171) rfl
                  simp [go_sem, e171]
                clear hk
                intro _ hk
                refine kq_val hk (.bool true) rfl rfl (wanted_yes hk rfl rfl rfl rfl) ?_ ?_
                · intro w' hw'
                  obtain ⟨p, rfl⟩ := hw'
                  have e148 := hk.at_ (i := 148) rfl
                  have e172 := hk.at_ (i := 172) rfl
                  simp [go_sem, e148, e172]
                clear hk
                intro _ hk
                refine kq_val hk (.bool true) rfl rfl (wanted_none rfl) ?_ ?_
                · intro w' hw'
                  obtain ⟨p, rfl⟩ := hw'
                  have e137 := hk.at_ (i := 137) rfl
                  have e173 := hk.at_ (i := 173) rfl
                  simp [go_sem, e137, e173]
                clear hk
                intro _ hk
                refine wpQuiet_nil ?_
                refine hKQ _ _ ?_
                clear hKQ KQ
                have ea := hk.is
                rw [← HA0.out] at ea
                simp only [puts, Act.put, List.setIfInBounds_toArray, List.set_cons_succ, List.set_cons_zero] at ea
                subst ea
                clear hk HA0
                gi_wp2_with (refine wpListIn_skip rfl rfl ?_; go_simp)
                refine bodyPost_ret (results_none rfl _ _ _) rfl ?_
                first
                  | exact ⟨⟨_, rfl⟩, .inr ⟨_, trivial, hJx3⟩⟩
                  | exact ⟨⟨_, rfl⟩, .inr ⟨_, hJx3⟩⟩
            · have HA := Lib.hid (show Bk.arcsH t.bt d k = [] by rw [HAW.out, if_neg hp, if_neg hq]; rfl)
              have hp' : n ≤ 0 := by omega
              have hq' : wk ≤ n := by omega
              have hkm : ¬ ((k : Int) = -1) := by omega
              have u5 : IntKind.i64.wrap ((t.ws.length : Int) + (k : Int)) = (t.ws.length : Int) + (k : Int) := IntWalk.i64_in _ (by omega)
              have x5 := keep_cell S.out.bel (HC.out 5 _ rfl)
              have q0 := S.out.get 2 0 rfl rfl
              have r0 := cell_regrown q0
              have r3 := cell_regrown (keep_cell S.out.bel (HC.out 3 _ rfl))
              have rx := cell_regrown (keep_cell S.out.bel (HC.out 0 _ rfl))
              have ry := cell_regrown (keep_cell S.out.bel HCK.out)
              refine stage_letter fun a0 ha0 => ?_
              have HA0 := Lib.hid ha0
              clear ha0
              have hk := Kn.nil (N := 222) (a := a0) (by rw [← HA0.out]; rfl)
              replace hk := hk.add 1 (v := .func (.yield l) #[] #[]) (by rw [← HA0.out]; rfl)
              replace hk := hk.add 2 (v := .pointer (some ⟨W.heap.size, 0, none⟩)) (by rw [← HA0.out]; rfl)
              replace hk := hk.add 6 (v := I (t.ws.length : Int)) (by rw [← HA0.out]; rfl)
              replace hk := hk.add 8 (v := I ((t.ws.length : Int) + (t.hs.length : Int) + 1)) (by rw [← HA0.out]; rfl)
              replace hk := hk.add 9 (v := .func (.func 102) #[] #[.pointer (some ⟨W.heap.size, 0, none⟩)]) (by rw [← HA0.out]; rfl)
              replace hk := hk.add 12 (v := I (k : Int)) (by rw [← HA0.out]; rfl)
              replace hk := hk.add 13 (v := I n) (by rw [← HA0.out]; rfl)
              refine stage_next ?_
              simp only [opsAt, List.filterMap_cons, List.filterMap_nil, List.getElem?_toArray, List.getElem?_cons_succ, List.getElem?_cons_zero]
              show wpQuiet _ _ _ _ [_, _, _, _, _, _, _, _, _, _, _, _, _, _, _, _, _, _, _] _
              refine kq_move hk _ rfl (hk.look rfl) rfl rfl (wanted_none rfl) ?_
              clear hk
              intro _ hk
              refine kq_val hk (.bool false) rfl rfl (wanted_none rfl) ?_ ?_
              · intro w' hw'
                obtain ⟨p, rfl⟩ := hw'
                have e109 := hk.at_ (i := 109) rfl
                simp [go_sem, e109, hp]
              clear hk
              intro _ hk
              refine kq_move hk _ rfl (hk.look rfl) rfl rfl (wanted_none rfl) ?_
              clear hk
              intro _ hk
              refine kq_skip hk rfl rfl rfl rfl rfl rfl ?_
              clear hk
              intro _ hk
              refine kq_skip hk rfl rfl rfl rfl rfl rfl ?_
              clear hk
              intro _ hk
              refine kq_skip hk rfl rfl rfl rfl rfl rfl ?_
              clear hk
              intro _ hk
              refine kq_skip hk rfl rfl rfl rfl rfl rfl ?_
              clear hk
              intro _ hk
              refine kq_skip hk rfl rfl rfl rfl rfl rfl ?_
              clear hk
              intro _ hk
              refine kq_skip hk rfl rfl rfl rfl rfl rfl ?_
              clear hk
              intro _ hk
              refine kq_skip hk rfl rfl rfl rfl rfl rfl ?_
              clear hk
              intro _ hk
              refine kq_skip hk rfl rfl rfl rfl rfl rfl ?_
              clear hk
              intro _ hk
              refine kq_skip hk rfl rfl rfl rfl rfl rfl ?_
              clear hk
              intro _ hk
              refine kq_skip hk rfl rfl rfl rfl rfl rfl ?_
              clear hk
              intro _ hk
              refine kq_skip hk rfl rfl rfl rfl rfl rfl ?_
              clear hk
              intro _ hk
              refine kq_skip hk rfl rfl rfl rfl rfl rfl ?_
              clear hk
              intro _ hk
              refine kq_skip hk rfl rfl rfl rfl rfl rfl ?_
              clear hk
              intro _ hk
              refine kq_skip hk rfl rfl rfl rfl rfl rfl ?_
              clear hk
              intro _ hk
              refine kq_skip hk rfl rfl rfl rfl rfl rfl ?_
              clear hk
              intro _ hk
              refine kq_skip hk rfl rfl rfl rfl rfl rfl ?_
              clear hk
              intro _ hk
              refine wpQuiet_nil ?_
              intro K hK
              refine kl_skip hk rfl rfl rfl rfl rfl rfl rfl ?_
              clear hk
              intro _ hk
              refine hK _ _ (Below.refl _ _) ?_
              clear hK K
              refine stage_next ?_
              simp only [opsAt, List.filterMap_nil]
              refine wpQuiet_nil ?_
              intro K hK
              refine kl_skip hk rfl rfl rfl rfl rfl rfl rfl ?_
              clear hk
              intro _ hk
              refine hK _ _ (Below.refl _ _) ?_
              clear hK K
              refine stage_next ?_
              simp only [opsAt, List.filterMap_cons, List.filterMap_nil, List.getElem?_toArray, List.getElem?_cons_succ, List.getElem?_cons_zero]
              show wpQuiet _ _ _ _ [_] _
              refine kq_skip hk rfl rfl rfl rfl rfl rfl ?_
              clear hk
              intro _ hk
              refine wpQuiet_nil ?_
              intro K hK
              refine kl_skip hk rfl rfl rfl rfl rfl rfl rfl ?_
              clear hk
              intro _ hk
              refine hK _ _ (Below.refl _ _) ?_
              clear hK K
              refine stage_last ?_
              simp only [opsAt, List.filterMap_cons, List.filterMap_nil, List.getElem?_toArray, List.getElem?_cons_succ, List.getElem?_cons_zero]
              show wpQuiet _ _ _ _ [_, _] _
              refine kq_skip hk rfl rfl rfl rfl rfl rfl ?_
              clear hk
              intro _ hk
              refine kq_skip hk rfl rfl rfl rfl rfl rfl ?_
              clear hk
              intro _ hk
              refine wpQuiet_nil ?_
              intro K hK
              refine kl_skip hk rfl rfl rfl rfl rfl rfl rfl ?_
              clear hk
              intro _ hk
              refine hK _ _ ?_
              clear hK K
              clear x5 q0 r0 r3 rx ry
              have x5 := keep_cell S.out.bel (HC.out 5 _ rfl)
              have q0 := S.out.get 2 0 rfl rfl
              have r0 := cell_regrown q0
              have r3 := cell_regrown (keep_cell S.out.bel (HC.out 3 _ rfl))
              have rx := cell_regrown (keep_cell S.out.bel (HC.out 0 _ rfl))
              have ry := cell_regrown (keep_cell S.out.bel HCK.out)
              refine stage_next ?_
              simp only [opsAt, List.filterMap_cons, List.filterMap_nil, List.getElem?_toArray, List.getElem?_cons_succ, List.getElem?_cons_zero]
              show wpQuiet _ _ _ _ [_, _, _, _, _, _, _, _, _, _, _, _, _, _, _, _, _, _, _, _, _, _, _, _, _, _, _, _, _, _] _
              refine kq_skip hk rfl rfl rfl rfl rfl rfl ?_
              clear hk
              intro _ hk
              refine kq_val hk (.bool false) rfl rfl (wanted_none rfl) ?_ ?_
              · intro w' hw'
                obtain ⟨p, rfl⟩ := hw'
                have e111 := hk.at_ (i := 111) rfl
                have e135 := hk.at_ (i := 135) rfl
                simp [go_sem, e111, e135]
              clear hk
              intro _ hk
              refine kq_move hk _ rfl (hk.look rfl) rfl rfl (wanted_none rfl) ?_
              clear hk
              intro _ hk
              refine kq_move hk _ rfl (hk.look rfl) rfl rfl (wanted_yes hk rfl rfl rfl rfl) ?_
              clear hk
              intro _ hk
              refine kq_val hk (.pointer (some ⟨B, 0, none⟩)) rfl rfl (wanted_yes hk rfl rfl rfl rfl) ?_ ?_
              · intro w' hw'
                obtain ⟨p, rfl⟩ := hw'
                have e2 := hk.at_ (i := 2) rfl
                simp [go_sem, e2, r0]
              clear hk
              intro _ hk
              refine kq_val hk (.pointer (some ⟨B, 0, none⟩)) rfl rfl (wanted_yes hk rfl rfl rfl rfl) ?_ ?_
              · intro w' hw'
                obtain ⟨p, rfl⟩ := hw'
                have e139 := hk.at_ (i := 139) rfl
                simp [go_sem, e139]
              clear hk
              intro _ hk
              refine kq_val hk (.pointer (some ⟨B, 0, none⟩)) rfl rfl (wanted_yes hk rfl rfl rfl rfl) ?_ ?_
              · intro w' hw'
                obtain ⟨p, rfl⟩ := hw'
                have e140 := hk.at_ (i := 140) rfl
                simp [go_sem, e140]
              clear hk
              intro _ hk
              refine kq_val hk (.pointer (some ⟨B, 0, none⟩)) rfl rfl (wanted_yes hk rfl rfl rfl rfl) ?_ ?_
              · intro w' hw'
                obtain ⟨p, rfl⟩ := hw'
                have e141 := hk.at_ (i := 141) rfl
                simp [go_sem, e141]
              clear hk
              intro _ hk
              refine kq_val hk (.slice (some ⟨bw, ow, none⟩) t.hs.length c1) rfl rfl (wanted_yes hk rfl rfl rfl rfl) ?_ ?_
              · intro w' hw'
                obtain ⟨p, rfl⟩ := hw'
                have e142 := hk.at_ (i := 142) rfl
                simp [go_sem, e142, rx]
              clear hk
              intro _ hk
              refine kq_move hk _ rfl (hk.look rfl) rfl rfl (wanted_yes hk rfl rfl rfl rfl) ?_
              clear hk
              intro _ hk
              refine kq_val hk (.pointer (some ⟨bw, ow + k, none⟩)) rfl rfl (wanted_yes hk rfl rfl rfl rfl) ?_ ?_
              · intro w' hw'
                obtain ⟨p, rfl⟩ := hw'
                have e143 := hk.at_ (i := 143) rfl
                have e144 := hk.at_ (i := 144) rfl
                simp [go_sem, e143, e144, hki]
              clear hk
              intro _ hk
              refine kq_val hk (I wk) rfl rfl (wanted_yes hk rfl rfl rfl rfl) ?_ ?_
              · intro w' hw'
                obtain ⟨p, rfl⟩ := hw'
                have e145 := hk.at_ (i := 145) rfl
                simp [go_sem, e145, ry]
              clear hk
              intro _ hk
              refine kq_val hk (.bool false) rfl rfl (wanted_yes hk rfl rfl rfl rfl) ?_ ?_
              · intro w' hw'
                obtain ⟨p, rfl⟩ := hw'
                have e138 := hk.at_ (i := 138) rfl
                have e146 := hk.at_ (i := 146) rfl
                simp [go_sem, e138, e146, hq]
              clear hk
              intro _ hk
              refine kq_move hk _ rfl (hk.look rfl) rfl rfl (wanted_yes hk rfl rfl rfl rfl) ?_
              clear hk
              intro _ hk
              refine kq_skip hk rfl rfl rfl rfl rfl rfl ?_
              clear hk
              intro _ hk
              refine kq_skip hk rfl rfl rfl rfl rfl rfl ?_
              clear hk
              intro _ hk
              refine kq_skip hk rfl rfl rfl rfl rfl rfl ?_
              clear hk
              intro _ hk
              refine kq_skip hk rfl rfl rfl rfl rfl rfl ?_
              clear hk
              intro _ hk
              refine kq_skip hk rfl rfl rfl rfl rfl rfl ?_
              clear hk
              intro _ hk
              refine kq_skip hk rfl rfl rfl rfl rfl rfl ?_
              clear hk
              intro _ hk
              refine kq_skip hk rfl rfl rfl rfl rfl rfl ?_
              clear hk
              intro _ hk
              refine kq_skip hk rfl rfl rfl rfl rfl rfl ?_
              clear hk
              intro _ hk
              refine kq_skip hk rfl rfl rfl rfl rfl rfl ?_
              clear hk
              intro _ hk
              refine kq_skip hk rfl rfl rfl rfl rfl rfl ?_
              clear hk
              intro _ hk
              refine kq_skip hk rfl rfl rfl rfl rfl rfl ?_
              clear hk
              intro _ hk
              refine kq_skip hk rfl rfl rfl rfl rfl rfl ?_
              clear hk
              intro _ hk
              refine kq_skip hk rfl rfl rfl rfl rfl rfl ?_
              clear hk
              intro _ hk
              refine kq_skip hk rfl rfl rfl rfl rfl rfl ?_
              clear hk
              intro _ hk
              refine kq_skip hk rfl rfl rfl rfl rfl rfl ?_
              clear hk
              intro _ hk
              refine kq_skip hk rfl rfl rfl rfl rfl rfl ?_
              clear hk
              intro _ hk
              refine wpQuiet_nil ?_
              intro K hK
              refine kl_skip hk rfl rfl rfl rfl rfl rfl rfl ?_
              clear hk
              intro _ hk
              refine hK _ _ (Below.refl _ _) ?_
              clear hK K
              refine stage_next ?_
              simp only [opsAt, List.filterMap_nil]
              refine wpQuiet_nil ?_
              intro K hK
              refine kl_skip hk rfl rfl rfl rfl rfl rfl rfl ?_
              clear hk
              intro _ hk
              refine hK _ _ (Below.refl _ _) ?_
              clear hK K
              refine stage_next ?_
              simp only [opsAt, List.filterMap_cons, List.filterMap_nil, List.getElem?_toArray, List.getElem?_cons_succ, List.getElem?_cons_zero]
              show wpQuiet _ _ _ _ [_] _
              refine kq_skip hk rfl rfl rfl rfl rfl rfl ?_
              clear hk
              intro _ hk
              refine wpQuiet_nil ?_
              intro K hK
              refine kl_skip hk rfl rfl rfl rfl rfl rfl rfl ?_
              clear hk
              intro _ hk
              refine hK _ _ (Below.refl _ _) ?_
              clear hK K
              refine stage_last ?_
              simp only [opsAt, List.filterMap_cons, List.filterMap_nil, List.getElem?_toArray, List.getElem?_cons_succ, List.getElem?_cons_zero]
              show wpQuiet _ _ _ _ [_, _] _
              refine kq_skip hk rfl rfl rfl rfl rfl rfl ?_
              clear hk
              intro _ hk
              refine kq_skip hk rfl rfl rfl rfl rfl rfl ?_
              clear hk
              intro _ hk
              refine wpQuiet_nil ?_
              intro K hK
              refine kl_skip hk rfl rfl rfl rfl rfl rfl rfl ?_
              clear hk
              intro _ hk
              refine hK _ _ ?_
              clear hK K
              refine quiet_cls ?_
              show wpQuiet _ _ _ _ [_, _, _] _
              refine kq_skip hk rfl rfl rfl rfl rfl rfl ?_
              clear hk
              intro _ hk
              refine kq_val hk (.bool false) rfl rfl (wanted_yes hk rfl rfl rfl rfl) ?_ ?_
              · intro w' hw'
                obtain ⟨p, rfl⟩ := hw'
                have e148 := hk.at_ (i := 148) rfl
                have e172 := hk.at_ (i := 172) rfl
                simp [go_sem, e148, e172]
              clear hk
              intro _ hk
              refine kq_val hk (.bool false) rfl rfl (wanted_none rfl) ?_ ?_
              · intro w' hw'
                obtain ⟨p, rfl⟩ := hw'
                have e137 := hk.at_ (i := 137) rfl
                have e173 := hk.at_ (i := 173) rfl
                simp [go_sem, e137, e173]
              clear hk
              intro _ hk
              refine wpQuiet_nil ?_
              refine hKQ _ _ ?_
              clear hKQ KQ
              have ea := hk.is
              rw [← HA0.out] at ea
              simp only [puts, Act.put, List.setIfInBounds_toArray, List.set_cons_succ, List.set_cons_zero] at ea
              subst ea
              clear hk HA0
              gi_wp2_with (refine wpListIn_skip rfl rfl ?_; go_simp)
              go_roundw
              case rel => exact ⟨k + 1, by omega, by go_num, Lib.hid (by rw [HE.out, HA.out]; have := hJs.out; simpa [List.append_assoc] using this), S⟩
              case measure => first | (simp [intOf]; done) | (simp [intOf]; omega)
        · obtain rfl : k = t.hs.length := by omega
          have HJ0 := Lib.hid (show J (Bk.preY t.bt d 0) wr by rw [Bk.preY_zero]; exact hJs.out)
          have q0 := S.out.get 2 0 rfl rfl
          have x0 := keep_cell S.out.bel (HC.out 0 _ rfl)
          have x1 := keep_cell S.out.bel (HC.out 1 _ rfl)
          have x2 := keep_cell S.out.bel (HC.out 2 _ rfl)
          have x3 := keep_cell S.out.bel (HC.out 3 _ rfl)
          have x4 := keep_cell S.out.bel (HC.out 4 _ rfl)
          have x5 := keep_cell S.out.bel (HC.out 5 _ rfl)
          have x6 := keep_cell S.out.bel (HC.out 6 _ rfl)
          gi_wp2_with (refine wpListIn_skip rfl rfl ?_; go_simp)
          gi_loopw [182] (fun i wr => ∃ k : Nat, k ≤ t.ys.length ∧ i = I k ∧ Hid (J (Bk.preY t.bt d k) wr) ∧ Hid (St w0 wr wr.heap.size [.own 3 1 (.slice B1 t.hs.length k1) t.hs.length ((leftTo t d t.ys.length).1.map I), .own 3 1 (.slice B2 t.ws.length k2) t.ws.length ((leftTo t d t.ys.length).2.map I), .box W.heap.size [.pointer (some ⟨B, 0, none⟩)]])) (fun i _ => t.ys.length - (intOf i).toNat)
          case atStart => exact ⟨0, by omega, rfl, HJ0, S⟩
          case round =>
            clear S x0 x1 x2 x3 x4 x5 x6 q0 HJ0
            obtain ⟨k, hk, rfl, hJs, S⟩ := hrel
            by_cases hlt : k < t.ys.length
            · have hki : (k : Int) < (t.ys.length : Int) := by omega
              obtain ⟨a, c, hac, ha, hc⟩ := okY_nat HV.out hlt
              have hai : (a : Int) < (t.hs.length : Int) := by omega
              have hci : (c : Int) < (t.ws.length : Int) := by omega
              have HPRE := Lib.hid (show Bk.preY t.bt d k ++ Bk.arcsY t.bt d k <+: Bk.arcsB t.bt d by rw [← Bk.preY_succ]; exact Bk.preY_le t.bt d (i := k + 1) hlt)
              have HE := Lib.hid (Bk.preY_succ t.bt d k)
              have e1 : t.bt.hh k = a := by show (spAt t.ys k).low.toNat = a; rw [spAt_len _ _ hlt, hac]; simp
              have e2 : t.bt.ww k = c := by show (spAt t.ys k).high.toNat = c; rw [spAt_len _ _ hlt, hac]; simp
              have HAW := Lib.hid (show Bk.arcsY t.bt d k = ⟨c, t.ws.length + a, 0, (k : Int), 1⟩ :: (if 0 < d k then [⟨t.ws.length + a, c, 0, (k : Int), -1⟩] else []) by
                show (⟨t.bt.ww k, t.ws.length + t.bt.hh k, 0, (k : Int), 1⟩ : Bk.Arc) :: (if 0 < d k then [⟨t.ws.length + t.bt.hh k, t.bt.ww k, 0, (k : Int), -1⟩] else []) = _
                rw [e1, e2])
              obtain ⟨b3, o3, hA3, hcy⟩ := HCY.out (by omega)
              subst hA3
              obtain ⟨b4, o4, hA4, hcd⟩ := HCD.out (by rw [Bk.rowF_len]; omega)
              subst hA4
              obtain ⟨z0, z1⟩ := hcy k hlt
              rw [hac] at z0 z1
              have HZ0 := Lib.hid z0
              have HZ1 := Lib.hid z1
              have HZ2 := Lib.hid (hcd k (by rw [Bk.rowF_len]; exact hlt))
              rw [show (Bk.rowF t.ys.length d)[k]'(by rw [Bk.rowF_len]; exact hlt) = d k by simp [Bk.rowF]] at HZ2
              have hdk := Bk.div_small HSM.out HD.out (show k < t.bt.m from hlt)
              clear hcy hcd z0 z1 hac e1 e2
              have z0 := keep_cell S.out.bel HZ0.out
              have z1 := keep_cell S.out.bel HZ1.out
              have HJ1 := Lib.hid (HJ.out _ _ _ none hJs.out (grown_of_below ((Below.refl _ wr).alloc (Nat.le_refl _) (.cells #[I (a : Nat), I (c : Nat)] 47)) none) (by simp))
              have HLT9 := Lib.hid (S.out.lt 2 rfl)
              have S := Lib.hid (S.out.alloc [I (a : Nat), I (c : Nat)] 47)
              have HDIS2 := Lib.hid (show ∀ x ∈ (.box wr.heap.size [I (a : Nat), I (c : Nat)] :: [.own 3 1 (.slice B1 t.hs.length k1) t.hs.length ((leftTo t d t.ys.length).1.map I), .own 3 1 (.slice B2 t.ws.length k2) t.ws.length ((leftTo t d t.ys.length).2.map I), .box W.heap.size [.pointer (some ⟨B, 0, none⟩)]] : List Item), ∀ b, x.blk = some b → b ∉ Ks from by
                intro x hx b hb hm
                rcases List.mem_cons.1 hx with rfl | hx
                · injection hb with hb
                  have h1 := HKW.out b hm
                  have h2 : W.heap.size < wr.heap.size := HLT9.out
                  omega
                · exact HDIS.out x hx b hb hm)
              by_cases hq : 0 < d k
              · have HA := Lib.hid (show Bk.arcsY t.bt d k = [⟨c, t.ws.length + a, 0, (k : Int), 1⟩, ⟨t.ws.length + a, c, 0, (k : Int), -1⟩] by rw [HAW.out, if_pos hq])
                obtain ⟨dk, hdk2⟩ : ∃ x, d k = x := ⟨_, rfl⟩
                rw [hdk2] at HZ2 hdk hq
                clear hdk2 HAW
                have q0 := S.out.get 3 0 rfl rfl
                have x6 := keep_cell S.out.bel (HC.out 6 _ rfl)
                have w0_ := S.out.get 0 0 rfl rfl
                have w1_ := S.out.get 0 1 rfl rfl
                have z2 := keep_cell S.out.bel HZ2.out
                obtain ⟨fn, tmps, assign, body, hy, hR⟩ := HY.out _ ⟨c, t.ws.length + a, 0, (k : Int), 1⟩ _ HJ1.out (Bk.pre_one HPRE.out HA.out)
                dsimp only [encA, arcCells] at hy
                simp only [Int.natCast_add] at hy
                gi_wp2_with (refine wpListIn_skip rfl rfl ?_; go_simp)
                refine hR.mono ?_
                rintro e W3 (⟨rfl, hJ3, hk3⟩ | ⟨rfl, hJx3⟩)
                · have S := Lib.hid (S.out.kpX (by rw [HB0.out]; exact hk3) (by simp [Item.cel]) (HDIS2.out))
                  clear hk3 hy hR q0 x6 w0_ w1_ z2
                  have q0 := S.out.get 3 0 rfl rfl
                  have x6 := keep_cell S.out.bel (HC.out 6 _ rfl)
                  have w0_ := S.out.get 0 0 rfl rfl
                  have w1_ := S.out.get 0 1 rfl rfl
                  have z2 := keep_cell S.out.bel HZ2.out
                  obtain ⟨fn, tmps, assign, body, hy, hR⟩ := HY.out _ ⟨t.ws.length + a, c, 0, (k : Int), -1⟩ _ hJ3 (Bk.pre_two HPRE.out HA.out)
                  dsimp only [encA, arcCells] at hy
                  simp only [Int.natCast_add] at hy
                  gi_wp2_with (refine wpListIn_skip rfl rfl ?_; go_simp)
                  refine hR.mono ?_
                  rintro e W3 (⟨rfl, hJ3, hk3⟩ | ⟨rfl, hJx3⟩)
                  · have S := Lib.hid (S.out.kpX (by rw [HB0.out]; exact hk3) (by simp [Item.cel]) (HDIS2.out))
                    clear hk3 hy hR q0 x6 w0_ w1_ z2
                    have q0 := S.out.get 3 0 rfl rfl
                    have x6 := keep_cell S.out.bel (HC.out 6 _ rfl)
                    have w0_ := S.out.get 0 0 rfl rfl
                    have w1_ := S.out.get 0 1 rfl rfl
                    have z2 := keep_cell S.out.bel HZ2.out
                    gi_wp2_with (refine wpListIn_skip rfl rfl ?_; go_simp)
                    go_roundw
                    case rel => exact ⟨k + 1, by omega, by go_num, Lib.hid (by rw [HE.out, HA.out]; have := hJ3; simpa [List.append_assoc] using this), Lib.hid S.out.tail⟩
                    case measure => first | (simp [intOf]; done) | (simp [intOf]; omega)

                  · clear hy hR
                    gi_wp2_with (refine wpListIn_skip rfl rfl ?_; go_simp)
                    refine bodyPost_ret (results_none rfl _ _ _) rfl ?_
                    first
                      | exact ⟨⟨_, rfl⟩, .inr ⟨_, trivial, hJx3⟩⟩
                      | exact ⟨⟨_, rfl⟩, .inr ⟨_, hJx3⟩⟩

                · clear hy hR
                  gi_wp2_with (refine wpListIn_skip rfl rfl ?_; go_simp)
                  refine bodyPost_ret (results_none rfl _ _ _) rfl ?_
                  first
                    | exact ⟨⟨_, rfl⟩, .inr ⟨_, trivial, hJx3⟩⟩
                    | exact ⟨⟨_, rfl⟩, .inr ⟨_, hJx3⟩⟩
              · have HA := Lib.hid (show Bk.arcsY t.bt d k = [⟨c, t.ws.length + a, 0, (k : Int), 1⟩] by rw [HAW.out, if_neg hq])
                have hq' : d k ≤ 0 := by omega
                obtain ⟨dk, hdk2⟩ : ∃ x, d k = x := ⟨_, rfl⟩
                rw [hdk2] at HZ2 hdk hq hq'
                clear hdk2 HAW
                have q0 := S.out.get 3 0 rfl rfl
                have x6 := keep_cell S.out.bel (HC.out 6 _ rfl)
                have w0_ := S.out.get 0 0 rfl rfl
                have w1_ := S.out.get 0 1 rfl rfl
                have z2 := keep_cell S.out.bel HZ2.out
                obtain ⟨fn, tmps, assign, body, hy, hR⟩ := HY.out _ ⟨c, t.ws.length + a, 0, (k : Int), 1⟩ _ HJ1.out (Bk.pre_one HPRE.out HA.out)
                dsimp only [encA, arcCells] at hy
                simp only [Int.natCast_add] at hy
                gi_wp2_with (refine wpListIn_skip rfl rfl ?_; go_simp)
                refine hR.mono ?_
                rintro e W3 (⟨rfl, hJ3, hk3⟩ | ⟨rfl, hJx3⟩)
                · have S := Lib.hid (S.out.kpX (by rw [HB0.out]; exact hk3) (by simp [Item.cel]) (HDIS2.out))
                  clear hk3 hy hR q0 x6 w0_ w1_ z2
                  have q0 := S.out.get 3 0 rfl rfl
                  have x6 := keep_cell S.out.bel (HC.out 6 _ rfl)
                  have w0_ := S.out.get 0 0 rfl rfl
                  have w1_ := S.out.get 0 1 rfl rfl
                  have z2 := keep_cell S.out.bel HZ2.out
                  gi_wp2_with (refine wpListIn_skip rfl rfl ?_; go_simp)
                  go_roundw
                  case rel => exact ⟨k + 1, by omega, by go_num, Lib.hid (by rw [HE.out, HA.out]; have := hJ3; simpa [List.append_assoc] using this), Lib.hid S.out.tail⟩
                  case measure => first | (simp [intOf]; done) | (simp [intOf]; omega)

                · clear hy hR
                  gi_wp2_with (refine wpListIn_skip rfl rfl ?_; go_simp)
                  refine bodyPost_ret (results_none rfl _ _ _) rfl ?_
                  first
                    | exact ⟨⟨_, rfl⟩, .inr ⟨_, trivial, hJx3⟩⟩
                    | exact ⟨⟨_, rfl⟩, .inr ⟨_, hJx3⟩⟩
            · obtain rfl : k = t.ys.length := by omega
              have HJ9 := Lib.hid (show J (Bk.arcsB t.bt d) wr by rw [← Bk.preY_end]; exact hJs.out)
              have q0 := S.out.get 2 0 rfl rfl
              have x0 := keep_cell S.out.bel (HC.out 0 _ rfl)
              have x1 := keep_cell S.out.bel (HC.out 1 _ rfl)
              have x2 := keep_cell S.out.bel (HC.out 2 _ rfl)
              have x3 := keep_cell S.out.bel (HC.out 3 _ rfl)
              have x4 := keep_cell S.out.bel (HC.out 4 _ rfl)
              have x5 := keep_cell S.out.bel (HC.out 5 _ rfl)
              have x6 := keep_cell S.out.bel (HC.out 6 _ rfl)
              gi_wp2_with (refine wpListIn_skip rfl rfl ?_; go_simp)
              go_end0
              exact ⟨⟨_, rfl⟩, .inl ⟨_, rfl, HJ9.out⟩⟩
end Go.Proofs.YtldcehhhndlhdaaGreatDoor
