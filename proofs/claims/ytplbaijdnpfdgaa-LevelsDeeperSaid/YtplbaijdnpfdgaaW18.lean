/- Walks: the recursive function of Why. -/
import Derived.Test.YtplbaijdnpfdgaaW17
namespace Go.Proofs.Ytplbaijdnpfdgaa
open Go.RowKit Go.Sort Go.Shelf
attribute [local go_sem] run_store_func

def lastW (l : List Nat) : Nat := match l.getLast? with | none => 6 | some x => x
/-- The first list of so many wells more that is asked for: 'step' at one more well. -/
def findW (own bs : List Int) (N well : Nat) : Nat → List Nat → Int → Option (List Nat)
  | 0, l, sum => if lastW l = well ∧ sum = at_ bs 6 well then some l else none
  | d + 1, l, sum => (List.range N).findSome? fun w => if w ∈ l ∨ at_ own (lastW l) w = 1048576 then none else findW own bs N well d (l ++ [w]) (sum + at_ own (lastW l) w)
/-- The same, of the first k wells. -/
def findK (own bs : List Int) (N well d : Nat) (l : List Nat) (sum : Int) (k : Nat) : Option (List Nat) := (List.range k).findSome? fun w => if w ∈ l ∨ at_ own (lastW l) w = 1048576 then none else findW own bs N well d (l ++ [w]) (sum + at_ own (lastW l) w)
theorem findK_succ (own bs : List Int) (N well d : Nat) (l : List Nat) (sum : Int) (k : Nat) (h : findK own bs N well d l sum k = none) :
    findK own bs N well d l sum (k + 1) = if k ∈ l ∨ at_ own (lastW l) k = 1048576 then none else findW own bs N well d (l ++ [k]) (sum + at_ own (lastW l) k) := by
  unfold findK at h ⊢
  rw [List.range_succ, List.findSome?_append, h]
  simp only [List.findSome?_cons, List.findSome?_nil, Option.none_or]
  split <;> simp_all
theorem findSome_range {α : Type} (g : Nat → Option α) {k : Nat} {r : α} (h : (List.range k).findSome? g = some r) : ∀ d, (List.range (k + d)).findSome? g = some r
  | 0 => h
  | d + 1 => by rw [show k + (d + 1) = (k + d) + 1 from rfl, List.range_succ, List.findSome?_append, findSome_range g h d]; rfl
/-- What the recursive function reads. -/
structure WBox (W : World) (Bw Bb Bt Bo Bf PB PO well N : Nat) (own bs : List Int) : Prop where
  cw : W.cell? ⟨Bw, 0, none⟩ = some (I (well : Nat))
  cb : W.cell? ⟨Bb, 0, none⟩ = some (.pointer (some ⟨PB, 0, none⟩))
  ct : W.cell? ⟨Bt, 0, none⟩ = some (I (N : Nat))
  co : W.cell? ⟨Bo, 0, none⟩ = some (.pointer (some ⟨PO, 0, none⟩))
  cf : W.cell? ⟨Bf, 0, none⟩ = some (.func (.func 81) #[] #[.pointer (some ⟨Bw, 0, none⟩), .pointer (some ⟨Bb, 0, none⟩), .pointer (some ⟨Bt, 0, none⟩), .pointer (some ⟨Bo, 0, none⟩), .pointer (some ⟨Bf, 0, none⟩)])
  mb : MatAt W PB bs
  mo : MatAt W PO own
theorem WBox.keep {W W' : World} {Bw Bb Bt Bo Bf PB PO well N : Nat} {own bs : List Int} (h : WBox W Bw Bb Bt Bo Bf PB PO well N own bs) (hb : Below W.heap.size W W') : WBox W' Bw Bb Bt Bo Bf PB PO well N own bs :=
  ⟨keep_cell hb h.cw, keep_cell hb h.cb, keep_cell hb h.ct, keep_cell hb h.co, keep_cell hb h.cf, h.mb.below hb, h.mo.below hb⟩
/-- Nothing, or a list in memory. -/
def RetFind (res : Option (List Nat)) (w : World) (e : Ending) (w' : World) : Prop := Below w.heap.size w w' ∧
  ((res = none ∧ e = .returned (.slice none 0 0)) ∨ (∃ r a c, res = some r ∧ e = .returned (.slice (some a) r.length c) ∧ Ints w' (.slice (some a) r.length c) (ofN r)))

set_option maxRecDepth 20000 in
set_option maxHeartbeats 8000000 in
theorem find_any (Bw Bb Bt Bo Bf PB PO well N : Nat) (own bs : List Int) (hN : N ≤ 6) (hwell : well < N) (hbs : bs.length = 49) (hown : Bd 99 99 own) :
    ∀ (d : Nat) (l : List Nat) (A : Option Addr) (m c : Nat) (sum : Int) (W : World), l.length = m → (0 < d ∨ 0 < m) → (-1000000 + 1000 * (d : Int) ≤ sum ∧ sum ≤ 1000000 - 1000 * (d : Int)) → Ints W (.slice A m c) (ofN l) → WBox W Bw Bb Bt Bo Bf PB PO well N own bs → (∀ y ∈ l, y < 7) → (A = none → m = 0) → m + d ≤ 100 →
      Calls Try.prog 81 #[.slice A m c, I (d : Nat), I sum, .pointer (some ⟨Bw, 0, none⟩), .pointer (some ⟨Bb, 0, none⟩), .pointer (some ⟨Bt, 0, none⟩), .pointer (some ⟨Bo, 0, none⟩), .pointer (some ⟨Bf, 0, none⟩)] W fun e w' => RetFind (findW own bs N well d l sum) W e w' := by
  intro d
  induction d with
  | zero =>
    intro l A m c sum W hm hne hsum hr hb hsm hnil hm100
    obtain ⟨ad, rfl⟩ : ∃ ad, A = some ad := by
      cases A with
      | some ad => exact ⟨ad, rfl⟩
      | none =>
        exfalso
        obtain ⟨_, A', c', e, _, _, h5⟩ := hr
        injection e with e1 e2 e3
        subst e1
        rw [ofN_len] at h5
        obtain ⟨b, o, h6, _⟩ := h5 (by rcases hne with h | h <;> omega)
        cases h6
    have hm1 : 0 < m := by rcases hne with h | h <;> omega
    obtain ⟨m, rfl⟩ : ∃ m', m = m' + 1 := ⟨m - 1, by omega⟩
    obtain ⟨y, hy⟩ : ∃ y, l[m]? = some y := ⟨_, List.getElem?_eq_getElem (by omega)⟩
    have HLW := Lib.hid (show lastW l = y by
      unfold lastW
      rw [List.getLast?_eq_getElem?, hm, show m + 1 - 1 = m from rfl, hy])
    obtain ⟨b, o, rfl, hcell⟩ : ∃ b o, ad = ⟨b, o, none⟩ ∧ W.cell? ⟨b, o + m, none⟩ = some (I (y : Int)) := by
      obtain ⟨_, A', c', e, _, _, h5⟩ := hr
      injection e with e1 e2 e3
      subst e1
      rw [ofN_len] at h5
      obtain ⟨b, o, h6, h7⟩ := h5 (by omega)
      injection h6 with h6
      exact ⟨b, o, h6, h7 m _ (by rw [List.getElem?_map, ofN, List.getElem?_map, hy]; rfl)⟩
    have HM := Lib.hid hm
    have HR := Lib.hid hr
    have HB := Lib.hid hb
    have cw := hb.cw
    have cb := hb.cb
    have HC := Lib.hid (hb.mb.cell 6 well (by rw [hbs]; omega))
    have hw7 : well < 7 := by omega
    have hwi : (well : Int) < 7 := by omega
    have hfd : findW own bs N well 0 l sum = if y = well ∧ sum = at_ bs 6 well then some l else none := by rw [findW, HLW.out]
    have HFD := Lib.hid hfd
    clear hm hr hb hy hne hsm hfd
    obtain ⟨z, hz⟩ : ∃ z, at_ bs 6 well = z := ⟨_, rfl⟩
    rw [hz] at HC HFD
    clear hz
    cases e1 : ((y : Int) == (well : Int))
    · have HE := Lib.hid (HFD.out.trans (if_neg (by simp at e1; omega)))
      go_enter Try.func81, Try.ntmps81
      go_wp2_with fail
      have kw := cell_regrown cw
      refine wp_region_quiet_below (by kernel_rfl) (by kernel_rfl) ?_
      repeat (go_big_quiet_step (fail))
      refine wpQuiet_nil ?_
      rintro w1 ⟨p1, hp1⟩
      have HB1 := Lib.hid (show Below W.heap.size W w1 by rw [hp1]; exact below_regrown _ _ _)
      clear hp1 cw cb kw
      go_wp2_with fail
      go_ret
      exact ⟨HB1.out, .inl ⟨HE.out, rfl⟩⟩
    · have HE1 := Lib.hid (show y = well by simp at e1; omega)
      cases e2 : (sum == z)
      · have HE := Lib.hid (HFD.out.trans (if_neg (by simp at e2; omega)))
        go_enter Try.func81, Try.ntmps81
        go_wp2_with fail
        have kw := cell_regrown cw
        have kb := cell_regrown cb
        have kc := cell_regrown HC.out
        refine wp_region_quiet_below (by kernel_rfl) (by kernel_rfl) ?_
        repeat (go_big_quiet_step (fail))
        refine wpQuiet_nil ?_
        rintro w1 ⟨p1, hp1⟩
        have HB1 := Lib.hid (show Below W.heap.size W w1 by rw [hp1]; exact below_regrown _ _ _)
        clear hp1 cw cb kw kb kc
        go_wp2_with fail
        go_ret
        exact ⟨HB1.out, .inl ⟨HE.out, rfl⟩⟩
      · have HE := Lib.hid (HFD.out.trans (if_pos ⟨HE1.out, by simpa using e2⟩))
        go_enter Try.func81, Try.ntmps81
        go_wp2_with fail
        have kw := cell_regrown cw
        have kb := cell_regrown cb
        have kc := cell_regrown HC.out
        refine wp_region_quiet_below (by kernel_rfl) (by kernel_rfl) ?_
        repeat (go_big_quiet_step (fail))
        refine wpQuiet_nil ?_
        rintro w1 ⟨p1, hp1⟩
        have HB1 := Lib.hid (show Below W.heap.size W w1 by rw [hp1]; exact below_regrown _ _ _)
        clear hp1 cw cb kw kb kc
        go_wp2_with fail
        go_ret
        exact ⟨HB1.out, .inr ⟨l, ⟨b, o, none⟩, c, HE.out, by rw [HM.out]; rfl, by rw [HM.out]; exact HR.out.below HB1.out⟩⟩
  | succ d ih =>
    intro l A m c sum W hm hne hsum hr hb hsm hnil hm100
    have ih' := ih
    have HIH := Lib.hid ih
    have HR := Lib.hid hr
    have HBX := Lib.hid hb
    have HSM := Lib.hid hsm
    have HNIL := Lib.hid hnil
    have ct := hb.ct
    have hd0 : (((d + 1 : Nat) : Int) == 0) = false := by simp; omega
    have hd1 : ((d : Int) + 1 == 0) = false := by simp; omega
    obtain ⟨hs1, hs2⟩ := hsum
    have hmc : m ≤ c ∧ c ≤ 9223372036854775807 := by
      obtain ⟨_, A', c', e, h1, h2, _⟩ := hr
      injection e with e1 e2 e3
      rw [ofN_len] at e2 h1
      omega
    obtain ⟨hmc1, hmc2⟩ := hmc
    obtain ⟨i0, hi, hz0, hz1, hz2⟩ := info_parts Try.info3
    have h63 : m + 1 ≤ maxLen := by simp only [maxLen]; omega
    have hby : (m + 1) * 8 ≤ 140737488355328 := by omega
    clear ih ih' hb hsm hnil hne
    rw [show ((d + 1 : Nat) : Int) = (d : Int) + 1 by omega]
    cases m with
    | zero =>
      have hl : l = [] := List.eq_nil_of_length_eq_zero hm
      have HM := Lib.hid hm
      have HL7 := Lib.hid (show lastW l < 7 by rw [hl]; decide)
      have HLW := Lib.hid (show lastW l = 6 by rw [hl]; rfl)
      clear hm hr hl
      go_enter Try.func81, Try.ntmps81
      go_wp2_with fail
      clear ct
      go_loopw [42] (fun u wr => ∃ k : Nat, k ≤ N ∧ u = I (k : Nat) ∧ Hid (findK own bs N well d l sum k = none) ∧ Hid (Below W.heap.size W wr)) (fun u _ => N - (intOf u).toNat)
      case atStart => exact ⟨0, by omega, rfl, Lib.hid rfl, Lib.hid (Below.refl _ _)⟩
      case round =>
        obtain ⟨k, hk, rfl, HF, HB⟩ := hrel
        have hbx := HBX.out.keep HB.out
        have HBX2 := Lib.hid hbx
        by_cases hlt : k < N
        · have hki : (k : Int) < (N : Int) := by omega
          have HS := Lib.hid (findK_succ own bs N well d l sum k HF.out)
          clear hbx
          go_wp2_with fail
          refine (contains_any _ (ofN l) (k : Int) wr (HR.out.below HB.out)).mono ?_
          rintro e w1 ⟨rfl, hb⟩
          have HB1 := Lib.hid (bto HB.out hb)
          have hbx := HBX2.out.keep hb
          have HBX3 := Lib.hid hbx
          have co := hbx.co
          have hcell := hbx.mo.cell (lastW l) k (by have := hown.len; have := HL7.out; omega)
          have HOB := Lib.hid (show at_ own (lastW l) k = 1048576 ∨ (-99 ≤ at_ own (lastW l) k ∧ at_ own (lastW l) k ≤ 99) by
            have h1 := hown.low (lastW l) k HL7.out (by omega)
            have h2 := hown.high (lastW l) k HL7.out (by omega)
            omega)
          obtain ⟨x, hx⟩ : ∃ x, at_ own (lastW l) k = x := ⟨_, rfl⟩
          rw [hx] at hcell HOB HS
          clear hx hb hbx
          obtain ⟨lw, hlw⟩ : ∃ lw, lastW l = lw := ⟨_, rfl⟩
          have hk7 : k < 7 := by omega
          have hki7 : (k : Int) < 7 := by omega
          rw [hlw] at hcell
          obtain rfl : lw = 6 := by rw [← hlw]; exact HLW.out
          clear hlw
          have hmem : decide ((k : Int) ∈ ofN l) = decide (k ∈ l) := by simp [mem_ofN]
          rw [hmem]
          clear hmem
          cases hc : decide (k ∈ l)
          · cases hfree : (x == 1048576)
            · have hxb : -99 ≤ x ∧ x ≤ 99 := by
                rcases HOB.out with h | h
                · rw [h] at hfree; cases hfree
                · exact h
              obtain ⟨hxb1, hxb2⟩ := hxb
              have HS := Lib.hid (HS.out.trans (if_neg (by simp at hc hfree; simp [hc, hfree])))
              have cf := HBX3.out.cf
              have HRR := Lib.hid (reads_full (show Reads w1 1 (.slice A 0 c) 0 ((ofN l).map I) by
                have := HR.out.below HB1.out
                unfold Ints at this
                rw [ofN_len, HM.out] at this
                exact this))
              have HNM := Lib.hid (show k ∉ l by simpa using hc)
              clear hc
              go_wp2_with fail
              clear hfree
              have i1 : IntKind.i64.wrap (sum + x) = sum + x := IntWalk.i64_in _ (by omega)
              have i2 : IntKind.i64.wrap (d : Int) = (d : Int) := IntWalk.i64_in _ (by omega)
              refine wp_region_treeB (.node [0, 1, 2, 3, 4, 5, 6, 7, 10, 11, 12, 13, 14, 15, 16, 17, 18, 19, 20] [8] (fun _ => .node [] [9] (fun _ => .node [] [21] (fun _ => .last [22] [])))) 23 (by kernel_rfl) (by kernel_rfl) ?_
              intro KQ hKQ w2 hb
              have HB2 := Lib.hid hb
              have kf := cell_regrown (keep_cell hb cf)
              have ko := cell_regrown (keep_cell hb co)
              have kc := cell_regrown (keep_cell hb hcell)
              clear hb cf co hcell
              refine treeB_node ?_
              simp only [opsAt, List.filterMap_cons, List.filterMap_nil, List.getElem?_toArray, List.getElem?_cons_succ, List.getElem?_cons_zero]
              repeat (first | go_big_quiet_step (fail) | quiet_step (fail))
              refine wpQuiet_nil ?_
              refine all_one ?_
              intro K hK
              refine loud_op rfl rfl ?_
              go_simp
              have HA := Lib.hid ((Below.refl w2.heap.size w2).alloc (Nat.le_refl _) (.cells #[I (k : Int)] 3))
              have y0 := box_cell w2 #[I (k : Int)] 3 0 rfl
              have HY0 := Lib.hid y0
              refine hK _ _ HA.out ?_
              clear hK K kf ko kc y0
              refine treeB_node ?_
              simp only [opsAt, List.filterMap_nil]
              refine wpQuiet_nil ?_
              refine all_one ?_
              intro K hK
              refine loud_op rfl rfl ?_
              refine wp_append_full _ _ _ 29 rfl 3 i0 (.int .i64 0) 8 Try.underlying29 hi hz0 hz1 hz2 rfl A 0 ((ofN l).map I) rfl (Reads.below (Reads.below HRR.out HB2.out) HA.out) (fun _ => rfl) _ (I (k : Int)) rfl (reads_box1 HY0.out) rfl h63 hby ?_
              intro v' w5 hown2 hb
              obtain ⟨A2, c2, rfl⟩ := own_shape hown2
              have HBR := Lib.hid (bto HA.out hb)
              have HI5 := Lib.hid (show Ints w5 (.slice A2 (0 + 1) c2) (ofN (l ++ [k])) from by
                have h := Reads.of_own hown2
                unfold Ints
                rw [ofN_len, List.length_append, HM.out, ofN_snoc, List.map_append]
                exact h)
              have HN2 := Lib.hid (show A2 = none → 0 + 1 = 0 by
                intro e
                obtain ⟨g, cap, e2, _⟩ := own_shape_pos hown2 (by omega)
                injection e2 with e2
                rw [e] at e2
                cases e2)
              clear hb hown2
              refine hK _ _ HBR.out ?_
              clear hK K
              go_simp
              refine treeB_node ?_
              simp only [opsAt, List.filterMap_nil]
              refine wpQuiet_nil ?_
              refine all_one ?_
              intro K hK
              refine loud_op rfl rfl ?_
              go_simp
              refine (HIH.out (l ++ [k]) A2 (0 + 1) c2 (sum + x) w5 (by rw [List.length_append, HM.out]; rfl) (.inr (by omega)) (by omega) HI5.out (HBX3.out.keep (bto HB2.out HBR.out)) (fun z hz => by
                rcases List.mem_append.1 hz with hz | hz
                · exact HSM.out z hz
                · rw [List.mem_singleton.1 hz]; omega) HN2.out (by omega)).mono ?_
              rintro e w6 ⟨hb, h6⟩
              have HB6 := Lib.hid (bto HB1.out (bto HB2.out (bto HBR.out hb)))
              have HBK := Lib.hid (bto HBR.out hb)
              have H6 := Lib.hid h6
              clear hb h6
              rcases H6.out with ⟨hn, rfl⟩ | ⟨r, a3, c3, hn, rfl, hI⟩
              · have HS := Lib.hid (HS.out.trans hn)
                clear hn H6
                refine hK _ _ HBK.out ?_
                clear hK K
                refine treeB_last ?_
                simp only [opsAt, List.filterMap_cons, List.filterMap_nil, List.getElem?_toArray, List.getElem?_cons_succ, List.getElem?_cons_zero]
                repeat (first | go_big_quiet_step (fail) | quiet_step (fail))
                refine wpQuiet_nil ?_
                go_wp2_with fail
                go_roundw
                case rel => exact ⟨k + 1, by omega, by go_num, HS, HB6⟩
                case measure => simp [intOf]; omega
              · have HS := Lib.hid (show findW own bs N well (d + 1) l sum = some r by
                  have h := HS.out.trans hn
                  have h2 := findSome_range _ h (N - (k + 1))
                  rw [show k + 1 + (N - (k + 1)) = N by omega] at h2
                  exact h2)
                have HIR := Lib.hid hI
                clear hn hI H6
                refine hK _ _ HBK.out ?_
                clear hK K
                refine treeB_last ?_
                simp only [opsAt, List.filterMap_cons, List.filterMap_nil, List.getElem?_toArray, List.getElem?_cons_succ, List.getElem?_cons_zero]
                repeat (first | go_big_quiet_step (fail) | quiet_step (fail))
                refine wpQuiet_nil ?_
                go_wp2_with fail
                go_ret
                exact ⟨HB6.out, .inr ⟨r, a3, c3, HS.out, rfl, HIR.out⟩⟩
            · have HS := Lib.hid (HS.out.trans (if_pos (.inr (by simpa using hfree))))
              clear hc
              go_wp2_with fail
              go_roundw
              case rel => exact ⟨k + 1, by omega, by go_num, HS, HB1⟩
              case measure => simp [intOf]; omega
          · have HS := Lib.hid (HS.out.trans (if_pos (.inl (by simpa using hc))))
            go_wp2_with fail
            go_roundw
            case rel => exact ⟨k + 1, by omega, by go_num, HS, HB1⟩
            case measure => simp [intOf]; omega
        · have HE := Lib.hid (show findW own bs N well (d + 1) l sum = none by
            have h : findW own bs N well (d + 1) l sum = findK own bs N well d l sum N := rfl
            rw [h, ← HF.out, show k = N by omega])
          have hki : ¬ (k : Int) < (N : Int) := by omega
          go_wp2_with fail
          go_ret
          exact ⟨HB.out, .inl ⟨HE.out, rfl⟩⟩
    | succ m =>
      obtain ⟨y, hy⟩ : ∃ y, l[m]? = some y := ⟨_, List.getElem?_eq_getElem (by omega)⟩
      have hlw0 : lastW l = y := by
        unfold lastW
        rw [List.getLast?_eq_getElem?, hm, show m + 1 - 1 = m from rfl, hy]
      obtain ⟨b, o, rfl, hcell⟩ : ∃ b o, A = some ⟨b, o, none⟩ ∧ W.cell? ⟨b, o + m, none⟩ = some (I (y : Int)) := by
        obtain ⟨_, A', c', e, _, _, h5⟩ := hr
        injection e with e1 e2 e3
        subst e1
        rw [ofN_len] at h5
        obtain ⟨b, o, h6, h7⟩ := h5 (by omega)
        exact ⟨b, o, h6, h7 m _ (by rw [List.getElem?_map, ofN, List.getElem?_map, hy]; rfl)⟩
      have HM := Lib.hid hm
      have hy7 : y < 7 := HSM.out y (List.mem_of_getElem? hy)
      have hyi7 : (y : Int) < 7 := by omega
      have HLW := Lib.hid hlw0
      have HL7 := Lib.hid (show lastW l < 7 by rw [hlw0]; exact hy7)
      have hcc : (m : Int) + 1 ≤ (c : Int) := by omega
      have hc0 : (0 : Int) ≤ (m : Int) + 1 := by omega
      have hct : ((m : Int) + 1).toNat = m + 1 := by omega
      clear hm hr hy hlw0
      go_enter Try.func81, Try.ntmps81
      go_wp2_with fail
      clear ct hcell
      go_loopw [42] (fun u wr => ∃ k : Nat, k ≤ N ∧ u = I (k : Nat) ∧ Hid (findK own bs N well d l sum k = none) ∧ Hid (Below W.heap.size W wr)) (fun u _ => N - (intOf u).toNat)
      case atStart => exact ⟨0, by omega, rfl, Lib.hid rfl, Lib.hid (Below.refl _ _)⟩
      case round =>
        obtain ⟨k, hk, rfl, HF, HB⟩ := hrel
        have hbx := HBX.out.keep HB.out
        have HBX2 := Lib.hid hbx
        by_cases hlt : k < N
        · have hki : (k : Int) < (N : Int) := by omega
          have HS := Lib.hid (findK_succ own bs N well d l sum k HF.out)
          clear hbx
          go_wp2_with fail
          refine (contains_any _ (ofN l) (k : Int) wr (HR.out.below HB.out)).mono ?_
          rintro e w1 ⟨rfl, hb⟩
          have HB1 := Lib.hid (bto HB.out hb)
          have hbx := HBX2.out.keep hb
          have HBX3 := Lib.hid hbx
          have co := hbx.co
          have hcell := hbx.mo.cell (lastW l) k (by have := hown.len; have := HL7.out; omega)
          have HOB := Lib.hid (show at_ own (lastW l) k = 1048576 ∨ (-99 ≤ at_ own (lastW l) k ∧ at_ own (lastW l) k ≤ 99) by
            have h1 := hown.low (lastW l) k HL7.out (by omega)
            have h2 := hown.high (lastW l) k HL7.out (by omega)
            omega)
          obtain ⟨x, hx⟩ : ∃ x, at_ own (lastW l) k = x := ⟨_, rfl⟩
          rw [hx] at hcell HOB HS
          clear hx hb hbx
          obtain ⟨lw, hlw⟩ : ∃ lw, lastW l = lw := ⟨_, rfl⟩
          have hk7 : k < 7 := by omega
          have hki7 : (k : Int) < 7 := by omega
          rw [hlw] at hcell
          obtain rfl : y = lw := by rw [← hlw]; exact HLW.out.symm
          clear hlw
          have hmem : decide ((k : Int) ∈ ofN l) = decide (k ∈ l) := by simp [mem_ofN]
          rw [hmem]
          clear hmem
          cases hc : decide (k ∈ l)
          · cases hfree : (x == 1048576)
            · have hxb : -99 ≤ x ∧ x ≤ 99 := by
                rcases HOB.out with h | h
                · rw [h] at hfree; cases hfree
                · exact h
              obtain ⟨hxb1, hxb2⟩ := hxb
              have HS := Lib.hid (HS.out.trans (if_neg (by simp at hc hfree; simp [hc, hfree])))
              have cf := HBX3.out.cf
              have HRR := Lib.hid (reads_full (show Reads w1 1 (.slice (some ⟨b, o, none⟩) (m + 1) c) (m + 1) ((ofN l).map I) by
                have := HR.out.below HB1.out
                unfold Ints at this
                rw [ofN_len, HM.out] at this
                exact this))
              have HNM := Lib.hid (show k ∉ l by simpa using hc)
              clear hc
              go_wp2_with fail
              clear hfree
              have i1 : IntKind.i64.wrap (sum + x) = sum + x := IntWalk.i64_in _ (by omega)
              have i2 : IntKind.i64.wrap (d : Int) = (d : Int) := IntWalk.i64_in _ (by omega)
              refine wp_region_treeB (.node [0, 1, 2, 3, 4, 5, 6, 7, 10, 11, 12, 13, 14, 15, 16, 17, 18, 19, 20] [8] (fun _ => .node [] [9] (fun _ => .node [] [21] (fun _ => .last [22] [])))) 23 (by kernel_rfl) (by kernel_rfl) ?_
              intro KQ hKQ w2 hb
              have HB2 := Lib.hid hb
              have kf := cell_regrown (keep_cell hb cf)
              have ko := cell_regrown (keep_cell hb co)
              have kc := cell_regrown (keep_cell hb hcell)
              clear hb cf co hcell
              refine treeB_node ?_
              simp only [opsAt, List.filterMap_cons, List.filterMap_nil, List.getElem?_toArray, List.getElem?_cons_succ, List.getElem?_cons_zero]
              repeat (first | go_big_quiet_step (fail) | quiet_step (fail))
              refine wpQuiet_nil ?_
              refine all_one ?_
              intro K hK
              refine loud_op rfl rfl ?_
              go_simp
              have HA := Lib.hid ((Below.refl w2.heap.size w2).alloc (Nat.le_refl _) (.cells #[I (k : Int)] 3))
              have y0 := box_cell w2 #[I (k : Int)] 3 0 rfl
              have HY0 := Lib.hid y0
              refine hK _ _ HA.out ?_
              clear hK K kf ko kc y0
              refine treeB_node ?_
              simp only [opsAt, List.filterMap_nil]
              refine wpQuiet_nil ?_
              refine all_one ?_
              intro K hK
              refine loud_op rfl rfl ?_
              refine wp_append_full _ _ _ 29 rfl 3 i0 (.int .i64 0) 8 Try.underlying29 hi hz0 hz1 hz2 rfl (some ⟨b, o, none⟩) (m + 1) ((ofN l).map I) rfl (Reads.below (Reads.below HRR.out HB2.out) HA.out) (fun e => by cases e) _ (I (k : Int)) rfl (reads_box1 HY0.out) rfl h63 hby ?_
              intro v' w5 hown2 hb
              obtain ⟨A2, c2, rfl⟩ := own_shape hown2
              have HBR := Lib.hid (bto HA.out hb)
              have HI5 := Lib.hid (show Ints w5 (.slice A2 ((m + 1) + 1) c2) (ofN (l ++ [k])) from by
                have h := Reads.of_own hown2
                unfold Ints
                rw [ofN_len, List.length_append, HM.out, ofN_snoc, List.map_append]
                exact h)
              have HN2 := Lib.hid (show A2 = none → (m + 1) + 1 = 0 by
                intro e
                obtain ⟨g, cap, e2, _⟩ := own_shape_pos hown2 (by omega)
                injection e2 with e2
                rw [e] at e2
                cases e2)
              clear hb hown2
              refine hK _ _ HBR.out ?_
              clear hK K
              go_simp
              refine treeB_node ?_
              simp only [opsAt, List.filterMap_nil]
              refine wpQuiet_nil ?_
              refine all_one ?_
              intro K hK
              refine loud_op rfl rfl ?_
              go_simp
              refine (HIH.out (l ++ [k]) A2 ((m + 1) + 1) c2 (sum + x) w5 (by rw [List.length_append, HM.out]; rfl) (.inr (by omega)) (by omega) HI5.out (HBX3.out.keep (bto HB2.out HBR.out)) (fun z hz => by
                rcases List.mem_append.1 hz with hz | hz
                · exact HSM.out z hz
                · rw [List.mem_singleton.1 hz]; omega) HN2.out (by omega)).mono ?_
              rintro e w6 ⟨hb, h6⟩
              have HB6 := Lib.hid (bto HB1.out (bto HB2.out (bto HBR.out hb)))
              have HBK := Lib.hid (bto HBR.out hb)
              have H6 := Lib.hid h6
              clear hb h6
              rcases H6.out with ⟨hn, rfl⟩ | ⟨r, a3, c3, hn, rfl, hI⟩
              · have HS := Lib.hid (HS.out.trans hn)
                clear hn H6
                refine hK _ _ HBK.out ?_
                clear hK K
                refine treeB_last ?_
                simp only [opsAt, List.filterMap_cons, List.filterMap_nil, List.getElem?_toArray, List.getElem?_cons_succ, List.getElem?_cons_zero]
                repeat (first | go_big_quiet_step (fail) | quiet_step (fail))
                refine wpQuiet_nil ?_
                go_wp2_with fail
                go_roundw
                case rel => exact ⟨k + 1, by omega, by go_num, HS, HB6⟩
                case measure => simp [intOf]; omega
              · have HS := Lib.hid (show findW own bs N well (d + 1) l sum = some r by
                  have h := HS.out.trans hn
                  have h2 := findSome_range _ h (N - (k + 1))
                  rw [show k + 1 + (N - (k + 1)) = N by omega] at h2
                  exact h2)
                have HIR := Lib.hid hI
                clear hn hI H6
                refine hK _ _ HBK.out ?_
                clear hK K
                refine treeB_last ?_
                simp only [opsAt, List.filterMap_cons, List.filterMap_nil, List.getElem?_toArray, List.getElem?_cons_succ, List.getElem?_cons_zero]
                repeat (first | go_big_quiet_step (fail) | quiet_step (fail))
                refine wpQuiet_nil ?_
                go_wp2_with fail
                go_ret
                exact ⟨HB6.out, .inr ⟨r, a3, c3, HS.out, rfl, HIR.out⟩⟩
            · have HS := Lib.hid (HS.out.trans (if_pos (.inr (by simpa using hfree))))
              clear hc
              go_wp2_with fail
              go_roundw
              case rel => exact ⟨k + 1, by omega, by go_num, HS, HB1⟩
              case measure => simp [intOf]; omega
          · have HS := Lib.hid (HS.out.trans (if_pos (.inl (by simpa using hc))))
            go_wp2_with fail
            go_roundw
            case rel => exact ⟨k + 1, by omega, by go_num, HS, HB1⟩
            case measure => simp [intOf]; omega
        · have HE := Lib.hid (show findW own bs N well (d + 1) l sum = none by
            have h : findW own bs N well (d + 1) l sum = findK own bs N well d l sum N := rfl
            rw [h, ← HF.out, show k = N by omega])
          have hki : ¬ (k : Int) < (N : Int) := by omega
          go_wp2_with fail
          go_ret
          exact ⟨HB.out, .inl ⟨HE.out, rfl⟩⟩
end Go.Proofs.Ytplbaijdnpfdgaa
