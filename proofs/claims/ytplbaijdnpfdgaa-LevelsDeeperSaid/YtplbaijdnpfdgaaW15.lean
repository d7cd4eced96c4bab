/- The iterator over the lists of words: its contract. -/
import Derived.Test.YtplbaijdnpfdgaaW14
import Derived.Test.YtplbaijdnpfdgaaSegIn
import Derived.Test.YtplbaijdnpfdgaaFull
import Derived.Test.YtplbaijdnpfdgaaPlain6
import Derived.Shelf.Abstract
namespace Go.Proofs.Ytplbaijdnpfdgaa
open Go.RowKit Go.Sort Go.Shelf
attribute [local go_sem] Oper.semAt_some

/-- What the recursive function reads: how many, below what, whom to tell, itself. -/
structure LBox (W : World) (Bm By Bb Bf l many below : Nat) : Prop where
  cm : W.cell? ⟨Bm, 0, none⟩ = some (I (many : Nat))
  cy : W.cell? ⟨By, 0, none⟩ = some (.func (.yield l) #[] #[])
  cb : W.cell? ⟨Bb, 0, none⟩ = some (I (below : Nat))
  cf : W.cell? ⟨Bf, 0, none⟩ = some (.func (.func 101) #[] #[.pointer (some ⟨Bm, 0, none⟩), .pointer (some ⟨By, 0, none⟩), .pointer (some ⟨Bb, 0, none⟩), .pointer (some ⟨Bf, 0, none⟩)])
theorem LBox.keep {W W' : World} {Bm By Bb Bf l many below : Nat} (h : LBox W Bm By Bb Bf l many below) (k : KpC W W') : LBox W' Bm By Bb Bf l many below := ⟨k.cell h.cm, k.cell h.cy, k.cell h.cb, k.cell h.cf⟩
theorem yield_any {m m' l : Nat} {args : Array Value} {W : World} {R : Ending → World → Prop} (h : YieldAt Fence.wide m Try.prog l args W R) : YieldAt Fence.wide m' Try.prog l args W R := by
  obtain ⟨fn, tmps, assign, body, hy, hR⟩ := h
  exact ⟨fn, tmps, assign, body, hy, hR.1, fun c cs _ => hR.2 c cs (room_wide _)⟩
/-- A list that is yielded: its value, and its numbers. -/
abbrev YL := Value × List Nat
def encY (x : YL) : Array Value := #[x.1]
/-- What is so of each list, when it is yielded. -/
structure RY (all : List (List Nat)) (pre : List YL) (x : YL) (W : World) : Prop where
  reads : Ints W x.1 (ofN x.2)
  pre : (pre.map Prod.snd ++ [x.2]) <+: all
/-- How the recursive function ends. -/
def FromPost (J Jx : List YL → World → Prop) (pre : List YL) (new : List (List Nat)) (w : World) (e : Ending) (w' : World) : Prop :=
  (e = .returned (.bool true) ∧ ∃ q : List YL, q.map Prod.snd = new ∧ J (pre ++ q) w' ∧ KpC w w') ∨ (e = .returned (.bool false) ∧ ∃ q : List YL, Jx q w')
theorem ofN_snoc (l : List Nat) (x : Nat) : ofN (l ++ [x]) = ofN l ++ [(x : Int)] := by simp [ofN]
theorem ofN_len (l : List Nat) : (ofN l).length = l.length := by simp [ofN]

theorem reads_full {w : World} {A : Option Addr} {m c : Nat} {xs : List Value} (h : Reads w 1 (.slice A m c) m xs) : Reads w 1 (.slice A m m) m xs := by
  obtain ⟨h1, A', c', e, h2, h3, h4⟩ := h
  injection e with e1 e2 e3
  subst e1
  exact ⟨h1, A, m, rfl, Nat.le_refl _, by omega, h4⟩

set_option maxRecDepth 100000 in
set_option maxHeartbeats 8000000 in
theorem from_in (l Bm By Bb Bf many below : Nat) (hmany : many ≤ 100) (hbelow : below ≤ 100) (J Jx : List YL → World → Prop) (all : List (List Nat)) (B0 : Nat) (hJ : AbidesFrom B0 J)
    (hY : ∀ pre x W1, J pre W1 → RY all pre x W1 → YieldAt Fence.wide 3 Try.prog l (encY x) W1 fun e W' =>
      (e = .returned (.bool true) ∧ J (pre ++ [x]) W' ∧ KpC W1 W') ∨ (e = .returned (.bool false) ∧ Jx (pre ++ [x]) W')) :
    ∀ (d : Nat) (fst : List Nat) (A : Option Addr) (m c : Nat) (pre : List YL) (W : World), fst.length = m → (∀ y ∈ fst, y < 1000) → m + d = many → (A = none → m = 0) → Ints W (.slice A m c) (ofN fst) → LBox W Bm By Bb Bf l many below → B0 ≤ W.heap.size → J pre W → (pre.map Prod.snd ++ listsD below d fst) <+: all →
      CallsIn Fence.wide 4 Try.prog 101 #[.slice A m c, .pointer (some ⟨Bm, 0, none⟩), .pointer (some ⟨By, 0, none⟩), .pointer (some ⟨Bb, 0, none⟩), .pointer (some ⟨Bf, 0, none⟩)] W (FromPost J Jx pre (listsD below d fst) W) := by
  intro d
  induction d with
  | zero =>
    intro fst A m c pre W hm hsm hd hnil hr hb hB0 hJs hall
    obtain ⟨cm, cy, cb, cf⟩ := hb
    have hrd : RY all pre (.slice A m c, fst) W := ⟨hr, hall⟩
    obtain ⟨fn, tmps, assign, body, hy, hR⟩ := hY pre _ W hJs hrd
    dsimp only [encY] at hy
    have h0 : ((m : Int) == (many : Int)) = true := by simp; omega
    have HN := Lib.hid hnil
    have HD := Lib.hid hd
    have HM := Lib.hid hm
    clear hm hsm hd hnil hrd hr cb cf hall
    refine callsIn_of_wp Try.func101 rfl trivial ?_ rfl
    simp only [Try.ntmps101, List.size_toArray, List.length_cons, List.length_nil, Nat.reduceAdd, Nat.reduceSub, Array.replicate_succ, Array.replicate_zero, List.push_toArray, List.append_toArray, List.nil_append, List.cons_append]
    gi_wp2
    refine hR.mono ?_
    rintro e W3 (⟨rfl, hJ3, hk3⟩ | ⟨rfl, hJx3⟩)
    · gi_wp2
      go_ret
      exact .inl ⟨rfl, [(.slice A m c, fst)], rfl, hJ3, hk3⟩
    · gi_wp2
      go_ret
      exact .inr ⟨rfl, _, hJx3⟩
  | succ d ih =>
    intro fst A m c pre W hm hsm hd hnil hr hb hB0 hJs hall
    have HLB := Lib.hid hb
    have cm := hb.cm
    have h0 : ((m : Int) == (many : Int)) = false := by simp; omega
    have HR := Lib.hid (show Reads W 1 (.slice A m c) m ((ofN fst).map I) by have := hr; unfold Ints at this; rwa [ofN_len, hm] at this)
    have hmc : m ≤ c ∧ c ≤ 9223372036854775807 := by
      obtain ⟨_, _, _, e, h1, h2, _⟩ := HR.out
      injection e with e1 e2 e3
      omega
    obtain ⟨hmc1, hmc2⟩ := hmc
    have HN0 := Lib.hid hnil
    have HD := Lib.hid hd
    have HALL := Lib.hid hall
    have HIH := Lib.hid ih
    have HSM := Lib.hid hsm
    obtain ⟨i0, hi, hz0, hz1, hz2⟩ := info_parts Try.info3
    have h63 : m + 1 ≤ maxLen := by simp only [maxLen]; omega
    have hby : (m + 1) * 8 ≤ 140737488355328 := by omega
    cases m with
    | zero =>
      have hf : fst = [] := List.eq_nil_of_length_eq_zero hm
      have HNX := Lib.hid (show nextN fst = 0 by rw [hf]; rfl)
      have HM := Lib.hid hm
      clear hm hsm hd hnil hr hb hall ih hf
      refine callsIn_of_wp Try.func101 rfl trivial ?_ rfl
      simp only [Try.ntmps101, List.size_toArray, List.length_cons, List.length_nil, Nat.reduceAdd, Nat.reduceSub, Array.replicate_succ, Array.replicate_zero, List.push_toArray, List.append_toArray, List.nil_append, List.cons_append]
      gi_wp2
      gi_loopw [8] (fun u wr => ∃ k : Nat, k ≤ below - nextN fst ∧ u = I ((nextN fst + k : Nat) : Int) ∧ Hid (KpC W wr) ∧ ∃ q : List YL, Hid (q.map Prod.snd = listsK below d fst k) ∧ J (pre ++ q) wr) (fun u _ => below - (intOf u).toNat)
      case atStart => exact ⟨0, by omega, by rw [HNX.out]; rfl, Lib.hid (KpC.refl _), [], Lib.hid (by simp [listsK]), by simpa using hJs⟩
      case round =>
        clear hJs
        obtain ⟨k, hk, rfl, HK, q, HQ, hJs⟩ := hrel
        have HB := Lib.hid (HLB.out.keep HK.out)
        have cb := HB.out.cb
        by_cases hlt : nextN fst + k < below
        · have hlti : ((nextN fst + k : Nat) : Int) < (below : Int) := by omega
          have cf := HB.out.cf
          have hrr := HK.out.reads HR.out
          have HRR := Lib.hid hrr
          have hsz := HK.out.size
          obtain ⟨x, hx⟩ : ∃ x, nextN fst + k = x := ⟨_, rfl⟩
          rw [hx] at hlt hlti ⊢
          have HX := Lib.hid hx
          clear hrr hx
          gi_wp2_with fail
          refine wpIn_wide.2 ?_
          refine wp_region_treeB (.node [0, 1, 2, 3, 4, 5, 6, 7] [8] (fun _ => .node [] [9] (fun _ => .last [] [10, 11]))) 10 (by kernel_rfl) (by kernel_rfl) ?_
          intro KQ hKQ w1 hb
          have HB1 := Lib.hid hb
          have kf := cell_regrown (keep_cell hb cf)
          clear hb cf cb
          refine treeB_node ?_
          simp only [opsAt, List.filterMap_cons, List.filterMap_nil, List.getElem?_toArray, List.getElem?_cons_succ, List.getElem?_cons_zero]
          repeat (first | go_big_quiet_step (fail) | quiet_step (fail))
          refine wpQuiet_nil ?_
          refine all_one ?_
          intro K hK
          refine loud_op rfl rfl ?_
          go_simp
          have HA := Lib.hid ((Below.refl w1.heap.size w1).alloc (Nat.le_refl _) (.cells #[I (x : Int)] 3))
          have y0 := box_cell w1 #[I (x : Int)] 3 0 rfl
          have HY0 := Lib.hid y0
          refine hK _ _ HA.out ?_
          clear hK K kf y0
          refine treeB_node ?_
          simp only [opsAt, List.filterMap_nil]
          refine wpQuiet_nil ?_
          refine all_one ?_
          intro K hK
          refine loud_op rfl rfl ?_
          refine wp_append_full _ _ _ 29 rfl 3 i0 (.int .i64 0) 8 Try.underlying29 hi hz0 hz1 hz2 rfl A 0 ((ofN fst).map I) rfl (Reads.below (Reads.below (reads_full HRR.out) HB1.out) HA.out) (fun _ => rfl) _ (I (x : Int)) rfl (reads_box1 HY0.out) rfl h63 hby ?_
          intro v' w5 hown hb
          obtain ⟨A2, c2, rfl⟩ := own_shape hown
          have HW5 := Lib.hid (bto HB1.out (bto HA.out hb))
          have HBR := Lib.hid (bto HA.out hb)
          have HI5 := Lib.hid (show Ints w5 (.slice A2 (0 + 1) c2) (ofN (fst ++ [x])) from by
            have h := Reads.of_own hown
            unfold Ints
            rw [ofN_len, List.length_append, HM.out, ofN_snoc, List.map_append]
            exact h)
          have HN2 := Lib.hid (show A2 = none → 0 + 1 = 0 by
            intro e
            obtain ⟨g, cap, e2, _⟩ := own_shape_pos hown (by omega)
            injection e2 with e2
            rw [e] at e2
            cases e2)
          have hsn := listsK_succ below d fst k
          rw [HX.out] at hsn
          have HSN3 := Lib.hid hsn
          have HJ5 := Lib.hid (hJ _ _ _ none hJs (grown_of_below HW5.out none) (by simp))
          have HP := Lib.hid (show ((pre ++ q).map Prod.snd ++ listsD below d (fst ++ [x])) <+: all from by
            have h1 := listsK_prefix below d fst (k + 1) (by have := HX.out; omega)
            rw [HSN3.out] at h1
            rw [List.map_append, HQ.out, List.append_assoc]
            exact List.IsPrefix.trans ((List.prefix_append_right_inj _).2 h1) HALL.out)
          clear hb hown hsn hJs
          refine hK _ _ HBR.out ?_
          clear hK K
          go_simp
          refine treeB_last ?_
          simp only [opsAt, List.filterMap_cons, List.filterMap_nil, List.getElem?_toArray, List.getElem?_cons_succ, List.getElem?_cons_zero]
          refine wpQuiet_nil ?_
          go_wp2_with fail
          refine (callsIn_wide.1 (HIH.out (fst ++ [x]) A2 (0 + 1) c2 (pre ++ q) w5 (by rw [List.length_append, HM.out]; rfl) (fun z hz => by
            rcases List.mem_append.1 hz with hz | hz
            · exact HSM.out z hz
            · rw [List.mem_singleton.1 hz]; omega) (by have := HD.out; omega) HN2.out HI5.out (HB.out.keep (KpC.below HW5.out)) (by have := HK.out.size; have := HW5.out.size; omega) HJ5.out HP.out)).mono ?_
          rintro e w6 (⟨rfl, q2, hq2, hJ6, hk6⟩ | ⟨rfl, q2, hJx⟩)
          · have HK6 := Lib.hid (HK.out.trans ((KpC.below HW5.out).trans hk6))
            have HQ6 := Lib.hid (show (q ++ q2).map Prod.snd = listsK below d fst (k + 1) by rw [List.map_append, HQ.out, hq2, HSN3.out])
            have HJ6 := Lib.hid hJ6
            clear hq2 hk6 hJ6
            go_wp2_with fail
            gi_wp2
            go_roundw
            case rel => exact ⟨k + 1, by have := HX.out; omega, congrArg I (show (x : Int) + 1 = ((nextN fst + (k + 1) : Nat) : Int) by have := HX.out; omega), HK6, q ++ q2, HQ6, by have h := HJ6.out; rwa [List.append_assoc] at h⟩
            case measure => first | (simp [intOf]; done) | (simp [intOf]; omega)
          · have HJX := Lib.hid hJx
            clear hJx
            go_wp2_with fail
            gi_wp2
            go_ret
            exact .inr ⟨rfl, _, HJX.out⟩
        · have HE := Lib.hid (show q.map Prod.snd = listsD below (d + 1) fst by rw [HQ.out, ← listsK_all]; congr 1; omega)
          have hlti : ¬ ((nextN fst + k : Nat) : Int) < (below : Int) := by omega
          obtain ⟨x, hx⟩ : ∃ x, nextN fst + k = x := ⟨_, rfl⟩
          rw [hx] at hlt hlti ⊢
          clear hx
          gi_wp2
          go_ret
          exact .inl ⟨rfl, q, HE.out, hJs, HK.out⟩
    | succ m =>
      obtain ⟨y, hy⟩ : ∃ y, fst[m]? = some y := ⟨_, List.getElem?_eq_getElem (by omega)⟩
      have HNX := Lib.hid (show nextN fst = y + 1 by
        unfold nextN
        rw [List.getLast?_eq_getElem?, hm, show m + 1 - 1 = m from rfl, hy])
      obtain ⟨b, o, rfl, hcell⟩ : ∃ b o, A = some ⟨b, o, none⟩ ∧ W.cell? ⟨b, o + m, none⟩ = some (I (y : Int)) := by
        obtain ⟨_, A', c', e, _, _, h5⟩ := HR.out
        injection e with e1 e2 e3
        subst e1
        obtain ⟨b, o, h6, h7⟩ := h5 (by omega)
        exact ⟨b, o, h6, h7 m _ (by rw [List.getElem?_map, ofN, List.getElem?_map, hy]; rfl)⟩
      have HM := Lib.hid hm
      have hy100 : y < 1000 := hsm y (List.mem_of_getElem? hy)
      have h0 : ((m : Int) + 1 == (many : Int)) = false := by simp; omega
      have hcc : (m : Int) + 1 ≤ (c : Int) := by omega
      have hc0 : (0 : Int) ≤ (m : Int) + 1 := by omega
      have hct : ((m : Int) + 1).toNat = m + 1 := by omega
      clear hm hsm hd hnil hr hb hall ih hy
      refine callsIn_of_wp Try.func101 rfl trivial ?_ rfl
      simp only [Try.ntmps101, List.size_toArray, List.length_cons, List.length_nil, Nat.reduceAdd, Nat.reduceSub, Array.replicate_succ, Array.replicate_zero, List.push_toArray, List.append_toArray, List.nil_append, List.cons_append]
      gi_wp2
      gi_loopw [8] (fun u wr => ∃ k : Nat, k ≤ below - nextN fst ∧ u = I ((nextN fst + k : Nat) : Int) ∧ Hid (KpC W wr) ∧ ∃ q : List YL, Hid (q.map Prod.snd = listsK below d fst k) ∧ J (pre ++ q) wr) (fun u _ => below - (intOf u).toNat)
      case atStart => exact ⟨0, by omega, by rw [HNX.out]; rfl, Lib.hid (KpC.refl _), [], Lib.hid (by simp [listsK]), by simpa using hJs⟩
      case round =>
        clear hJs
        obtain ⟨k, hk, rfl, HK, q, HQ, hJs⟩ := hrel
        have HB := Lib.hid (HLB.out.keep HK.out)
        have cb := HB.out.cb
        by_cases hlt : nextN fst + k < below
        · have hlti : ((nextN fst + k : Nat) : Int) < (below : Int) := by omega
          have cf := HB.out.cf
          have hrr := HK.out.reads HR.out
          have HRR := Lib.hid hrr
          have hsz := HK.out.size
          obtain ⟨x, hx⟩ : ∃ x, nextN fst + k = x := ⟨_, rfl⟩
          rw [hx] at hlt hlti ⊢
          have HX := Lib.hid hx
          clear hrr hx
          gi_wp2_with fail
          refine wpIn_wide.2 ?_
          refine wp_region_treeB (.node [0, 1, 2, 3, 4, 5, 6, 7] [8] (fun _ => .node [] [9] (fun _ => .last [] [10, 11]))) 10 (by kernel_rfl) (by kernel_rfl) ?_
          intro KQ hKQ w1 hb
          have HB1 := Lib.hid hb
          have kf := cell_regrown (keep_cell hb cf)
          clear hb cf cb
          refine treeB_node ?_
          simp only [opsAt, List.filterMap_cons, List.filterMap_nil, List.getElem?_toArray, List.getElem?_cons_succ, List.getElem?_cons_zero]
          repeat (first | go_big_quiet_step (fail) | quiet_step (fail))
          refine wpQuiet_nil ?_
          refine all_one ?_
          intro K hK
          refine loud_op rfl rfl ?_
          go_simp
          have HA := Lib.hid ((Below.refl w1.heap.size w1).alloc (Nat.le_refl _) (.cells #[I (x : Int)] 3))
          have y0 := box_cell w1 #[I (x : Int)] 3 0 rfl
          have HY0 := Lib.hid y0
          refine hK _ _ HA.out ?_
          clear hK K kf y0
          refine treeB_node ?_
          simp only [opsAt, List.filterMap_nil]
          refine wpQuiet_nil ?_
          refine all_one ?_
          intro K hK
          refine loud_op rfl rfl ?_
          refine wp_append_full _ _ _ 29 rfl 3 i0 (.int .i64 0) 8 Try.underlying29 hi hz0 hz1 hz2 rfl (some ⟨b, o, none⟩) (m + 1) ((ofN fst).map I) rfl (Reads.below (Reads.below (reads_full HRR.out) HB1.out) HA.out) (fun e => by cases e) _ (I (x : Int)) rfl (reads_box1 HY0.out) rfl h63 hby ?_
          intro v' w5 hown hb
          obtain ⟨A2, c2, rfl⟩ := own_shape hown
          have HW5 := Lib.hid (bto HB1.out (bto HA.out hb))
          have HBR := Lib.hid (bto HA.out hb)
          have HI5 := Lib.hid (show Ints w5 (.slice A2 ((m + 1) + 1) c2) (ofN (fst ++ [x])) from by
            have h := Reads.of_own hown
            unfold Ints
            rw [ofN_len, List.length_append, HM.out, ofN_snoc, List.map_append]
            exact h)
          have HN2 := Lib.hid (show A2 = none → (m + 1) + 1 = 0 by
            intro e
            obtain ⟨g, cap, e2, _⟩ := own_shape_pos hown (by omega)
            injection e2 with e2
            rw [e] at e2
            cases e2)
          have hsn := listsK_succ below d fst k
          rw [HX.out] at hsn
          have HSN3 := Lib.hid hsn
          have HJ5 := Lib.hid (hJ _ _ _ none hJs (grown_of_below HW5.out none) (by simp))
          have HP := Lib.hid (show ((pre ++ q).map Prod.snd ++ listsD below d (fst ++ [x])) <+: all from by
            have h1 := listsK_prefix below d fst (k + 1) (by have := HX.out; omega)
            rw [HSN3.out] at h1
            rw [List.map_append, HQ.out, List.append_assoc]
            exact List.IsPrefix.trans ((List.prefix_append_right_inj _).2 h1) HALL.out)
          clear hb hown hsn hJs
          refine hK _ _ HBR.out ?_
          clear hK K
          go_simp
          refine treeB_last ?_
          simp only [opsAt, List.filterMap_cons, List.filterMap_nil, List.getElem?_toArray, List.getElem?_cons_succ, List.getElem?_cons_zero]
          refine wpQuiet_nil ?_
          go_wp2_with fail
          refine (callsIn_wide.1 (HIH.out (fst ++ [x]) A2 ((m + 1) + 1) c2 (pre ++ q) w5 (by rw [List.length_append, HM.out]; rfl) (fun z hz => by
            rcases List.mem_append.1 hz with hz | hz
            · exact HSM.out z hz
            · rw [List.mem_singleton.1 hz]; omega) (by have := HD.out; omega) HN2.out HI5.out (HB.out.keep (KpC.below HW5.out)) (by have := HK.out.size; have := HW5.out.size; omega) HJ5.out HP.out)).mono ?_
          rintro e w6 (⟨rfl, q2, hq2, hJ6, hk6⟩ | ⟨rfl, q2, hJx⟩)
          · have HK6 := Lib.hid (HK.out.trans ((KpC.below HW5.out).trans hk6))
            have HQ6 := Lib.hid (show (q ++ q2).map Prod.snd = listsK below d fst (k + 1) by rw [List.map_append, HQ.out, hq2, HSN3.out])
            have HJ6 := Lib.hid hJ6
            clear hq2 hk6 hJ6
            go_wp2_with fail
            gi_wp2
            go_roundw
            case rel => exact ⟨k + 1, by have := HX.out; omega, congrArg I (show (x : Int) + 1 = ((nextN fst + (k + 1) : Nat) : Int) by have := HX.out; omega), HK6, q ++ q2, HQ6, by have h := HJ6.out; rwa [List.append_assoc] at h⟩
            case measure => first | (simp [intOf]; done) | (simp [intOf]; omega)
          · have HJX := Lib.hid hJx
            clear hJx
            go_wp2_with fail
            gi_wp2
            go_ret
            exact .inr ⟨rfl, _, HJX.out⟩
        · have HE := Lib.hid (show q.map Prod.snd = listsD below (d + 1) fst by rw [HQ.out, ← listsK_all]; congr 1; omega)
          have hlti : ¬ ((nextN fst + k : Nat) : Int) < (below : Int) := by omega
          obtain ⟨x, hx⟩ : ∃ x, nextN fst + k = x := ⟨_, rfl⟩
          rw [hx] at hlt hlti ⊢
          clear hx
          gi_wp2
          go_ret
          exact .inl ⟨rfl, q, HE.out, hJs, HK.out⟩
end Go.Proofs.Ytplbaijdnpfdgaa
