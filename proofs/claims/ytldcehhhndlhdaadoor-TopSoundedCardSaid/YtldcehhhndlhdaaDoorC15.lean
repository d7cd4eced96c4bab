/- Walks: Huge; the reference's CopyWorld. -/
import Derived.Test.YtldcehhhndlhdaaDoorC13
import Derived.Test.YtldcehhhndlhdaaDoorC14
namespace Go.Proofs.YtldcehhhndlhdaaDoor
open Go.RowKit Go.Sort Go.Shelf

def hugeW (ls : List (List Int)) : Bool := decide ((40 : Int) < (ls.length : Int)) || ls.any fun l => decide ((40 : Int) < (l.length : Int))
def hugeQ (t : QTown) : Bool := decide ((40 : Int) < (t.wds.length : Int)) || decide ((40 : Int) < (t.fcs.length : Int)) || t.wds.any hugeW
theorem hugeQ_small {t : QTown} (h : hugeQ t = false) : t.wds.length ≤ 40 ∧ t.fcs.length ≤ 40 ∧ ∀ ls ∈ t.wds, ls.length ≤ 40 ∧ ∀ l ∈ ls, l.length ≤ 40 := by
  unfold hugeQ at h
  simp only [Bool.or_eq_false_iff, decide_eq_false_iff_not, List.any_eq_false] at h
  refine ⟨by omega, by omega, fun ls hls => ?_⟩
  have h2 := h.2 ls hls
  unfold hugeW at h2
  simp only [Bool.or_eq_true, decide_eq_true_eq, List.any_eq_true, not_or, not_exists, not_and] at h2
  exact ⟨by omega, fun l hl => by have := h2.2 l hl; omega⟩
theorem Item.ok.weaken {b b' : Nat} {w : World} {x : Item} (h : x.ok b' w) (hb : b ≤ b') : x.ok b w := by
  cases x with
  | box _ _ => exact ⟨Nat.le_trans hb h.1, h.2⟩
  | own _ _ _ _ _ => exact own_base' h hb
  | any _ _ => exact ⟨Nat.le_trans hb h.1, h.2⟩
/-- What a call has made becomes its caller's. -/
theorem St.takeL {w0 w w' : World} {n n' : Nat} {L M : List Item} (h : St w0 w n L) (k : St w w' n' M) : St w0 w' n' (M ++ L) := by
  refine ⟨k.size, bto h.bel k.bel, fun x hx => ?_, ?_⟩
  · rcases List.mem_append.1 hx with hx | hx
    · exact (k.ok x hx).weaken h.bel.size
    · exact (h.ok x hx).same fun b hb => k.bel.block b ((h.ok x hx).lt hb).2
  · rw [List.filterMap_append]
    refine List.nodup_append.2 ⟨k.apart, h.apart, fun a ha b hb e => ?_⟩
    have h1 := (k.lt_of ha).1
    have h2 := (h.lt_of hb).2
    have h3 := h.size
    omega
/-- These things hold the rows. -/
def Holds1 (Its : List Item) (us : List Value) (ls : List (List Int)) : Prop := ∀ (base : Nat) (W : World), (∀ x ∈ Its, x.ok base W) → ∀ (i : Nat) (u : Value) (l : List Int), us[i]? = some u → ls[i]? = some l → Ints W u l
theorem Holds1.snoc {Its : List Item} {us : List Value} {ls : List (List Int)} {u : Value} {l : List Int} {e : Nat} (h : Holds1 Its us ls) (hl : us.length = ls.length) : Holds1 (.own e 1 u l.length (l.map I) :: Its) (us ++ [u]) (ls ++ [l]) := by
  intro base W hok i u' l' hu hl'
  by_cases hi : i < us.length
  · rw [List.getElem?_append_left hi] at hu
    rw [List.getElem?_append_left (by omega)] at hl'
    exact h base W (fun x hx => hok x (List.mem_cons_of_mem _ hx)) i u' l' hu hl'
  · rw [List.getElem?_append_right (by omega)] at hu
    rw [List.getElem?_append_right (by omega)] at hl'
    have e0 : i - us.length = 0 := by
      by_cases e : i - us.length = 0
      · exact e
      · rw [List.getElem?_eq_none (by simp; omega)] at hu; simp at hu
    rw [e0] at hu
    rw [← hl, e0] at hl'
    simp at hu hl'
    subst hu
    subst hl'
    exact Ints.of_own (hok _ List.mem_cons_self)
def HoldsL (Its : List Item) (v : Value) (ls : List (List Int)) : Prop := ∀ (base : Nat) (W : World), (∀ x ∈ Its, x.ok base W) → LL W v ls
theorem Holds1.done {Its : List Item} {us : List Value} {ls : List (List Int)} {v : Value} {e : Nat} (h : Holds1 Its us ls) (hl : us.length = ls.length) : HoldsL (.own e 1 v ls.length us :: Its) v ls := by
  intro base W hok
  exact ⟨us, hl, Reads.of_own (hok _ List.mem_cons_self), h base W fun x hx => hok x (List.mem_cons_of_mem _ hx)⟩
theorem slice_one (A : Option Addr) (n c : Nat) : ∀ u ∈ [Value.slice A n c], u.oneCell' = true := fun u hu => by rw [List.mem_singleton.1 hu]; rfl

set_option maxRecDepth 20000 in
set_option maxHeartbeats 4000000 in
theorem huge5_any (v : Value) (t : QTown) (w : World) (hv : QAt w v t) :
    Calls Tryd.prog 7 #[v] w fun e w' => e = .returned (.bool (hugeQ t)) ∧ Below w.heap.size w w' := by
  obtain ⟨wv, fv, rfl, hw, hf⟩ := hv
  obtain ⟨A1, c1, rfl, hw1, hw2, -⟩ := id hw.open_
  obtain ⟨A2, c2, rfl, -, -, -⟩ := id hf.open_
  have HW := Lib.hid hw
  have S := Lib.hid (show St w (w.alloc (.cells #[I t.wells, .slice A1 t.wds.length c1, .slice A2 t.fcs.length c2] 29)) (w.heap.size + 1) [.box w.heap.size [I t.wells, .slice A1 t.wds.length c1, .slice A2 t.fcs.length c2]] from (St.init w).alloc [I t.wells, .slice A1 t.wds.length c1, .slice A2 t.fcs.length c2] 29)
  clear hw hf
  have q1 := S.out.get 0 1 rfl rfl
  have q2 := S.out.get 0 2 rfl rfl
  by_cases h1 : (40 : Int) < (t.wds.length : Int)
  · have HE := Lib.hid (show hugeQ t = true by unfold hugeQ; rw [decide_eq_true h1]; rfl)
    go_enter Tryd.func7, Tryd.ntmps7
    go_wp2_with fail
    go_ret
    exact ⟨by rw [HE.out]; rfl, S.out.bel⟩
  · by_cases h2 : (40 : Int) < (t.fcs.length : Int)
    · have HE := Lib.hid (show hugeQ t = true by unfold hugeQ; rw [decide_eq_true h2]; simp)
      go_enter Tryd.func7, Tryd.ntmps7
      go_wp2_with fail
      go_ret
      exact ⟨by rw [HE.out]; rfl, S.out.bel⟩
    · have H12 := Lib.hid (And.intro h1 h2)
      go_enter Tryd.func7, Tryd.ntmps7
      go_wp2_with fail
      clear q1 q2 h2
      go_loopw [3] (fun i wr => ∃ k : Nat, k ≤ t.wds.length ∧ i = I k ∧ Hid (∀ (i : Nat) (ls : List (List Int)), i < k → t.wds[i]? = some ls → hugeW ls = false) ∧ Hid (St w wr wr.heap.size [.box w.heap.size [I t.wells, .slice A1 t.wds.length c1, .slice A2 t.fcs.length c2]])) (fun i _ => t.wds.length - (intOf i).toNat)
      case atStart => exact ⟨0, by omega, rfl, Lib.hid (fun i l h => absurd h (by omega)), Lib.hid S.out.fix⟩
      case round =>
        clear S
        obtain ⟨k, hk, rfl, HO, S⟩ := hrel
        have q1 := S.out.get 0 1 rfl rfl
        by_cases hlt : k < t.wds.length
        · have hki : (k : Int) < (t.wds.length : Int) := by omega
          obtain ⟨ls, hl, hlm⟩ : ∃ ls, t.wds[k]? = some ls ∧ ls ∈ t.wds := ⟨_, List.getElem?_eq_getElem hlt, List.getElem_mem hlt⟩
          obtain ⟨b1, o1, cw, Au, cu, e, hu, hil⟩ := HW.out.some_ hl
          obtain ⟨hA1, -, -⟩ := qslice_inj e
          subst hA1
          obtain ⟨_, _, e2, h7, h8, -⟩ := hil.open_
          have HIL := Lib.hid hil
          have HU := Lib.hid hu
          have HLM := Lib.hid (And.intro hl hlm)
          have yu := keep_cell S.out.bel hu
          clear e hu hil hl hlm
          by_cases h3 : (40 : Int) < (ls.length : Int)
          · have HE := Lib.hid (show hugeQ t = true by unfold hugeQ; rw [List.any_eq_true.2 ⟨ls, HLM.out.2, by unfold hugeW; rw [decide_eq_true h3]; rfl⟩]; simp)
            go_wp2_with fail
            go_ret
            exact ⟨by rw [HE.out]; rfl, S.out.bel⟩
          · have H3 := Lib.hid h3
            go_wp2_with fail
            clear q1 yu h3
            go_loopw [4] (fun i wq => ∃ m : Nat, m ≤ ls.length ∧ i = I m ∧ Hid (∀ (i : Nat) (l : List Int), i < m → ls[i]? = some l → ¬ (40 : Int) < (l.length : Int)) ∧ Hid (St w wq wq.heap.size [.box w.heap.size [I t.wells, .slice (some ⟨b1, o1, none⟩) t.wds.length c1, .slice A2 t.fcs.length c2]])) (fun i _ => ls.length - (intOf i).toNat)
            case atStart => exact ⟨0, by omega, rfl, Lib.hid (fun i l h => absurd h (by omega)), Lib.hid S.out.fix⟩
            case round =>
              clear S
              rename_i wr' _ _ _
              obtain ⟨m, hm, rfl, HEL, S⟩ := hrel
              have q1 := S.out.get 0 1 rfl rfl
              have yu := keep_cell S.out.bel HU.out
              by_cases hlm : m < ls.length
              · have hmi : (m : Int) < (ls.length : Int) := by omega
                obtain ⟨l, hx, hxm⟩ : ∃ l, ls[m]? = some l ∧ l ∈ ls := ⟨_, List.getElem?_eq_getElem hlm, List.getElem_mem hlm⟩
                obtain ⟨b2, o2, c2', Al, cl, e3, hx2, -⟩ := HIL.out.some_ hx
                obtain ⟨hA2, -, -⟩ := qslice_inj e3
                subst hA2
                have yx := keep_cell S.out.bel hx2
                have HX := Lib.hid (And.intro hx hxm)
                clear e3 hx2 hx hxm
                by_cases h4 : (40 : Int) < (l.length : Int)
                · have HE := Lib.hid (show hugeQ t = true by unfold hugeQ; rw [List.any_eq_true.2 ⟨ls, HLM.out.2, by unfold hugeW; rw [List.any_eq_true.2 ⟨l, HX.out.2, by rw [decide_eq_true h4]⟩]; simp⟩]; simp)
                  go_wp2_with fail
                  go_ret
                  exact ⟨by rw [HE.out]; rfl, S.out.bel⟩
                · have HN := Lib.hid (show ∀ (i : Nat) (l : List Int), i < m + 1 → ls[i]? = some l → ¬ (40 : Int) < (l.length : Int) from fun i y hi hy => by
                    by_cases e : i = m
                    · subst e
                      rw [HX.out.1] at hy
                      injection hy with hy
                      rw [← hy]
                      exact h4
                    · exact HEL.out i y (by omega) hy)
                  go_wp2_with fail
                  go_roundw
                  case rel => exact ⟨m + 1, by omega, by go_num, HN, Lib.hid S.out.fix⟩
                  case measure => first | (simp [intOf]; done) | (simp [intOf]; omega)
              · have hmi : ¬ (m : Int) < (ls.length : Int) := by omega
                have HN := Lib.hid (show ∀ (i : Nat) (x : List (List Int)), i < k + 1 → t.wds[i]? = some x → hugeW x = false from fun i y hi hy => by
                  by_cases e : i = k
                  · subst e
                    rw [HLM.out.1] at hy
                    injection hy with hy
                    rw [← hy]
                    unfold hugeW
                    rw [decide_eq_false (by have := H3.out; omega), Bool.false_or, List.any_eq_false]
                    intro x hx
                    obtain ⟨j, hj⟩ := List.getElem?_of_mem hx
                    have := HEL.out j x (by have := (List.getElem?_eq_some_iff.1 hj).1; omega) hj
                    simpa using this
                  · exact HO.out i y (by omega) hy)
                go_wp2_with fail
                go_roundw
                case rel => exact ⟨k + 1, by omega, by go_num, HN, Lib.hid S.out.fix⟩
                case measure => first | (simp [intOf]; done) | (simp [intOf]; omega)
        · have hki : ¬ (k : Int) < (t.wds.length : Int) := by omega
          have HE := Lib.hid (show hugeQ t = false by
            unfold hugeQ
            rw [decide_eq_false (by have := H12.out.1; omega), decide_eq_false (by have := H12.out.2; omega), Bool.false_or, Bool.false_or, List.any_eq_false]
            intro x hx
            obtain ⟨j, hj⟩ := List.getElem?_of_mem hx
            simp [HO.out j x (by have := (List.getElem?_eq_some_iff.1 hj).1; omega) hj])
          go_wp2_with fail
          go_ret
          exact ⟨by rw [HE.out]; rfl, S.out.bel⟩

set_option maxRecDepth 20000 in
set_option maxHeartbeats 4000000 in
theorem copyWorld_any (v : Value) (ls : List (List Int)) (w : World) (hl : LL w v ls) (hsm : ls.length ≤ 40 ∧ ∀ l ∈ ls, l.length ≤ 40) :
    Calls Tryd.prog 59 #[.agg #[v]] w fun e w' => ∃ v', e = .returned (.agg #[v']) ∧ ∃ Its, St w w' w'.heap.size Its ∧ HoldsL Its v' ls := by
  obtain ⟨A, c, rfl, hc1, hc2, -⟩ := id hl.open_
  have HL := Lib.hid hl
  have HSM := Lib.hid hsm
  have S := Lib.hid (show St w (((w.alloc (.cells #[.slice A ls.length c] 80)).alloc (.cells #[.slice none 0 0] 80)).alloc (.cells #[.slice none 0 0] 80)) (w.heap.size + 1 + 1 + 1) [.box (w.heap.size + 1 + 1) [.slice none 0 0], .box (w.heap.size + 1) [.slice none 0 0], .box w.heap.size [.slice A ls.length c]] from (((St.init w).alloc [.slice A ls.length c] 80).alloc [.slice none 0 0] 80).alloc [.slice none 0 0] 80)
  have S := Lib.hid (S.out.nil 53 1)
  obtain ⟨iT, hiT, hzT0, hzT1, hzT2⟩ := info_parts (P := Tryd.prog) (e := 53) (z := .slice none 0 0) (size := 1) (bytes := 24) (by kernel_rfl)
  obtain ⟨i0, hi, hz0, hz1, hz2⟩ := info_parts Tryd.info3
  have h02 : 0 < 1 := by decide
  have hls := hsm.1
  clear hl hsm
  go_enter Tryd.func59, Tryd.ntmps59
  go_wp2_with fail
  go_loopw [4] (fun i wr => ∃ (k : Nat) (us : List Value) (Its : List Item) (A1 : Option Addr) (c1 : Nat), k ≤ ls.length ∧ i = I k ∧ Hid (us.length = k ∧ Holds1 Its us (ls.take k)) ∧ Hid (St w wr wr.heap.size ([.own 53 1 (.slice A1 k c1) k us, .box (w.heap.size + 1 + 1) [(.slice A1 k c1)], .box (w.heap.size + 1) [.slice none 0 0], .box w.heap.size [.slice A ls.length c]] ++ Its))) (fun i _ => ls.length - (intOf i).toNat)
  case atStart => exact ⟨0, [], [], none, 0, by omega, rfl, Lib.hid ⟨rfl, fun _ _ _ i u l hu _ => by simp at hu⟩, Lib.hid S.out.fix⟩
  case round =>
    clear S
    obtain ⟨k, us, Its, A1, c1, hk, rfl, HH, S⟩ := hrel
    have q0 := S.out.get 3 0 rfl rfl
    by_cases hlt : k < ls.length
    · have hki : (k : Int) < (ls.length : Int) := by omega
      obtain ⟨l, hl, hlm⟩ : ∃ l, ls[k]? = some l ∧ l ∈ ls := ⟨_, List.getElem?_eq_getElem hlt, List.getElem_mem hlt⟩
      obtain ⟨b2, o2, cw, Au, cu, e, hu, hil⟩ := HL.out.some_ hl
      obtain ⟨hA, -, -⟩ := qslice_inj e
      subst hA
      have HIL := Lib.hid hil
      have HU := Lib.hid hu
      have hll := HSM.out.2 l hlm
      have HLM := Lib.hid hl
      clear e hu hil hl hlm
      go_wp2_with fail
      clear q0
      refine wp_region_treeB (.node [0, 1, 3, 4, 5, 6, 7] [2] (fun _ => .node [] [8] (fun _ => .node [] [9] (fun _ => .last [] [10, 11, 12])))) 10 (by kernel_rfl) (by kernel_rfl) ?_
      intro KQ hKQ w1 hb
      have S := Lib.hid (S.out.call hb)
      clear hb
      have q0 := cell_regrown (S.out.get 3 0 rfl rfl)
      have p0 := cell_regrown (S.out.get 1 0 rfl rfl)
      have yu := cell_regrown (keep_cell S.out.bel HU.out)
      refine treeB_node ?_
      simp only [opsAt, List.filterMap_cons, List.filterMap_nil, List.getElem?_toArray, List.getElem?_cons_succ, List.getElem?_cons_zero]
      repeat (first | go_big_quiet_step (fail) | quiet_step (fail))
      refine wpQuiet_nil ?_
      refine all_one ?_
      intro K hK
      refine loud_op rfl rfl ?_
      go_simp
      have hb := (Below.refl w1.heap.size w1).alloc (Nat.le_refl _) (.cells #[] 3)
      have hg := heap_alloc_new w1 (.cells #[] 3)
      obtain ⟨w2, hw2⟩ : ∃ x, w1.alloc (.cells #[] 3) = x := ⟨_, rfl⟩
      rw [hw2] at hb hg ⊢
      clear hw2
      have HB := Lib.hid hb
      have HG := Lib.hid hg
      refine hK _ _ hb ?_
      clear hK K hb hg q0 p0 yu
      refine treeB_node ?_
      simp only [opsAt, List.filterMap_nil]
      refine wpQuiet_nil ?_
      refine all_one ?_
      intro K hK
      refine loud_op rfl rfl ?_
      have hrd : Reads w2 1 _ l.length (l.map I) := HIL.out.below (bto S.out.bel HB.out)
      refine wp_append_fresh _ (.tmp 14) (.tmp 19) 53 rfl w1.heap.size 3 i0 (.int .i64 0) 1 8 Tryd.underlying53 hi hz0 hz1 hz2 rfl h02 w1.heap.size rfl HG.out (Nat.le_refl _) _ l.length (l.map I) rfl hrd (ints_one l) (by simp only [maxLen]; omega) (by omega) HB.out.size ?_
      intro v' w3 hown hb2
      obtain ⟨Ar, cr, rfl⟩ := own_shape hown
      have HB2 := Lib.hid (bto HB.out hb2)
      have S := Lib.hid (S.out.take (bto HB.out hb2) hown)
      refine hK _ _ HB2.out ?_
      clear hK K hb2 hrd hown HB HG
      refine treeB_node ?_
      simp only [opsAt, List.filterMap_nil]
      refine wpQuiet_nil ?_
      refine all_one ?_
      intro K hK
      refine loud_op rfl rfl ?_
      go_simp
      refine hK _ _ (HB2.out.alloc HB2.out.size _) ?_
      have S := Lib.hid (S.out.alloc [.slice Ar l.length cr] 53)
      clear hK K HB2
      refine treeB_last ?_
      simp only [opsAt, List.filterMap_cons, List.filterMap_nil, List.getElem?_toArray, List.getElem?_cons_succ, List.getElem?_cons_zero]
      refine wpQuiet_nil ?_
      have h63 : k + 1 ≤ maxLen := by simp only [maxLen]; omega
      have hby : (k + 1) * 24 ≤ 140737488355328 := by omega
      refine wpList_append_St S.out 2 rfl _ _ 78 rfl 53 iT (.slice none 0 0) 1 24 Tryd.underlying78 hiT hzT0 hzT1 hzT2 rfl h02 rfl rfl _ 1 [.slice Ar l.length cr] rfl (reads_box1 (S.out.get 0 0 rfl rfl)) (slice_one _ _ _) h63 hby ?_
      intro v5 w5 hS5
      obtain ⟨A2, c2, rfl⟩ := own_shape (hS5.own 2 rfl)
      have S := Lib.hid hS5
      clear hS5
      have p0 := S.out.get 3 0 rfl rfl
      have z0 := S.out.free 3 0 rfl
      have S2 := Lib.hid (S.out.set 3 0 (.slice A2 (k + 1) c2) rfl)
      go_wp2_with fail
      go_roundw
      case rel =>
        refine ⟨k + 1, us ++ [.slice Ar l.length cr], .own 3 1 (.slice Ar l.length cr) l.length (l.map I) :: Its, A2, c2, by omega, by go_num, Lib.hid ⟨by simp [HH.out.1], ?_⟩, Lib.hid ?_⟩
        · have h := HH.out.2.snoc (u := .slice Ar l.length cr) (l := l) (e := 3) (by rw [HH.out.1]; simp; omega)
          rw [show ls.take (k + 1) = ls.take k ++ [l] from by rw [List.take_add_one, HLM.out]; rfl]
          exact h
        · have h := S2.out.fix.tail
          exact (show St w _ _ (.own 3 1 (.slice Ar l.length cr) l.length (l.map I) :: ([.own 53 1 (.slice A2 (k + 1) c2) (k + 1) (us ++ [.slice Ar l.length cr]), .box (w.heap.size + 1 + 1) [.slice A2 (k + 1) c2], .box (w.heap.size + 1) [.slice none 0 0], .box w.heap.size [.slice (some ⟨b2, o2, none⟩) ls.length c]] ++ Its)) from h).perm List.perm_middle.symm
      case measure => first | (simp [intOf]; done) | (simp [intOf]; omega)
    · obtain rfl : k = ls.length := by omega
      have hki : ¬ (ls.length : Int) < (ls.length : Int) := by omega
      have p0 := S.out.get 1 0 rfl rfl
      have r0 := S.out.get 2 0 rfl rfl
      have z0 := S.out.free 2 0 rfl
      have S2 := Lib.hid (S.out.set 2 0 (.slice A1 ls.length c1) rfl)
      have r1 := S2.out.get 2 0 rfl rfl
      go_wp2_with fail
      refine bodyPost_ret (v := .agg #[.slice A1 ls.length c1]) (by simp [results, Tryd.results59, go_sem, r1]) rfl ?_
      refine ⟨.slice A1 ls.length c1, rfl, .own 53 1 (.slice A1 ls.length c1) ls.length us :: Its, ?_, ?_⟩
      · exact (S2.out.less (.cons_cons _ (.cons _ (.cons _ (.cons _ (List.Sublist.refl _)))))).fix
      · exact Holds1.done (by have h := HH.out.2; rw [List.take_length] at h; exact h) HH.out.1

end Go.Proofs.YtldcehhhndlhdaaDoor
/- Walks: the reference's Sounded; sounded, Example. -/
namespace Go.Proofs.YtldcehhhndlhdaaDoor
open Go.RowKit Go.Sort

/-- A box reads as a slice of all its cells. -/
theorem St.boxReads {w0 w : World} {n : Nat} {L : List Item} (h : St w0 w n L) (i : Nat) {b : Nat} {cs : List Value} (hi : L[i]? = some (.box b cs)) {size m : Nat} (hm : cs.length = m * size) (hl : m ≤ 1000) : Reads w size (.slice (some ⟨b, 0, none⟩) m m) m cs := by
  refine ⟨hm, _, _, rfl, Nat.le_refl _, by omega, fun _ => ⟨b, 0, rfl, fun j u hu => ?_⟩⟩
  rw [Nat.zero_add]
  exact h.get i j hi hu

theorem sndCells_snoc (l : List Snd) (s : Snd) : sndCells (l ++ [s]) = sndCells l ++ [I s.well, I s.low, I s.high] := by simp [sndCells]
theorem slpCells_snoc (l : List Slp) (s : Slp) : slpCells (l ++ [s]) = slpCells l ++ [I s.a, I s.b, I s.low, I s.high] := by simp [slpCells]
theorem OwnTwn.base' {w : World} {base base' : Nat} {v : Value} {t : Twn} (h : OwnTwn w base v t) (hb : base' ≤ base) : OwnTwn w base' v t := by
  obtain ⟨sv, pv, rfl, h1, h2⟩ := h
  exact ⟨sv, pv, rfl, own_base' h1 hb, own_base' h2 hb⟩

set_option maxRecDepth 20000 in
set_option maxHeartbeats 4000000 in
theorem sounded_any (v : Value) (t : Twn) (s : Snd) (w : World) (hv : TwnAt w v t) (hlen : t.snd.length ≤ 1000) (hlen' : t.slp.length ≤ 1000) :
    Calls Tryd.prog 19 #[v, .agg #[I s.well, I s.low, I s.high]] w fun e w' => ∃ v', e = .returned v' ∧ OwnTwn w' w.heap.size v' (addS t s) ∧ Below w.heap.size w w' := by
  obtain ⟨sv, pv, rfl, hs, hp⟩ := hv
  have HSN := Lib.hid hs
  have HSP := Lib.hid hp
  obtain ⟨A1, c1, rfl, -, -, -⟩ := id hs.open_
  obtain ⟨A2, c2, rfl, -, -, -⟩ := id hp.open_
  clear hs hp
  have S := Lib.hid ((((St.init w).alloc [I t.wells, .slice A1 t.snd.length c1, .slice A2 t.slp.length c2] 25).alloc [I s.well, I s.low, I s.high] 31).alloc [I 0, .slice none 0 0, .slice none 0 0] 25)
  obtain ⟨i0, hi, hz0, hz1, hz2⟩ := info_parts (P := Tryd.prog) (e := 31) (z := .agg #[.int .i64 0, .int .i64 0, .int .i64 0]) (size := 3) (bytes := 24) (by kernel_rfl)
  have q0 := S.out.get 2 0 rfl rfl
  have q1 := S.out.get 2 1 rfl rfl
  have q2 := S.out.get 2 2 rfl rfl
  have p0 := S.out.get 1 0 rfl rfl
  have p1 := S.out.get 1 1 rfl rfl
  have p2 := S.out.get 1 2 rfl rfl
  have h63 : t.snd.length + 1 ≤ maxLen := by simp only [maxLen]; omega
  have hby : (t.snd.length + 1) * 24 ≤ 140737488355328 := by omega
  have h02 : 0 < 3 := by decide
  go_enter Tryd.func19, Tryd.ntmps19
  go_wp2_with fail
  clear q0 q1 q2 p0 p1 p2
  refine (copy_any _ t _ ⟨_, _, rfl, HSN.out.below S.out.bel, HSP.out.below S.out.bel⟩ hlen hlen').mono ?_
  rintro e w1 ⟨v', rfl, ⟨sv', pv', rfl, ho1, ho2⟩, hb⟩
  obtain ⟨Av, cv, rfl⟩ := own_shape ho1
  obtain ⟨Aw, cw, rfl⟩ := own_shape ho2
  have S := Lib.hid ((S.out.take2 hb ho1 ho2 (by decide)).alloc [I t.wells, .slice Av t.snd.length cv, .slice Aw t.slp.length cw] 25)
  clear hb ho1 ho2
  have k0 := S.out.get 0 1 rfl rfl
  have k1 := S.out.get 4 0 rfl rfl
  have k2 := S.out.get 4 1 rfl rfl
  have k3 := S.out.get 4 2 rfl rfl
  have T := Lib.hid (S.out.alloc [I s.well, I s.low, I s.high] 31)
  go_wp2_with (at_builtin; refine wpList_append_St T.out 2 rfl _ _ 22 rfl 31 i0 (.agg #[.int .i64 0, .int .i64 0, .int .i64 0]) 3 24 Tryd.underlying22 hi hz0 hz1 hz2 rfl h02 rfl rfl _ 1 [I s.well, I s.low, I s.high] rfl (T.out.boxReads 0 rfl rfl (by omega)) (snds_one [s]) h63 hby ?_; intro v5 w5 hS5; obtain ⟨A5, c5, rfl⟩ := own_shape (hS5.own 2 rfl); have S := Lib.hid hS5; clear hS5 k0 k1 k2 k3; have u0 := S.out.get 1 1 rfl rfl; have u1 := S.out.free 1 1 rfl; have S2 := Lib.hid (S.out.set 1 1 (.slice A5 (t.snd.length + 1) c5) rfl); have u2 := S2.out.get 1 0 rfl rfl; have u3 := S2.out.get 1 1 rfl rfl; have u4 := S2.out.get 1 2 rfl rfl; have u5 := S2.out.get 4 0 rfl rfl; have u6 := S2.out.get 4 1 rfl rfl; have u7 := S2.out.get 4 2 rfl rfl; have u8 := S2.out.free 4 0 rfl; have u9 := S2.out.free 4 1 rfl; have ua := S2.out.free 4 2 rfl; have S3 := Lib.hid (((S2.out.set 4 0 (I t.wells) rfl).set 4 1 (.slice A5 (t.snd.length + 1) c5) rfl).set 4 2 (.slice Aw t.slp.length cw) rfl); have r0 := S3.out.get 4 0 rfl rfl; have r1 := S3.out.get 4 1 rfl rfl; have r2 := S3.out.get 4 2 rfl rfl)
  refine bodyPost_ret (v := .agg #[I t.wells, .slice A5 (t.snd.length + 1) c5, .slice Aw t.slp.length cw]) (by simp [results, Tryd.results19, go_sem, r0, r1, r2]) rfl ⟨_, rfl, ⟨_, _, rfl, ?_, S3.out.own 3 rfl⟩, S3.out.bel⟩
  have h := S3.out.own 2 rfl
  simpa [addS, sndCells_snoc] using h

def exT : Twn := ⟨3, [⟨0, 10, 12⟩, ⟨2, 20, 30⟩], [⟨0, 1, 3, 5⟩, ⟨1, 2, 4, 8⟩]⟩
def exQ : Twn := addS exT ⟨1, 18, 19⟩
set_option maxRecDepth 20000 in
set_option maxHeartbeats 4000000 in
theorem example_any (w : World) :
    Calls Tryd.prog 36 #[] w fun e w' => ∃ v1 v2, e = .returned (.tuple #[v1, v2]) ∧ TwnAt w' v1 exT ∧ TwnAt w' v2 exQ ∧ Below w.heap.size w w' := by
  have S := Lib.hid (((St.init w).alloc [I 0, .slice none 0 0, .slice none 0 0] 25).alloc [I 0, .slice none 0 0, .slice none 0 0] 25)
  go_enter Tryd.func36, Tryd.ntmps36
  have S := Lib.hid (((((St.init w).alloc [I 3, .slice (some ⟨w.heap.size + 1 + 1, 0, none⟩) 2 2, .slice (some ⟨w.heap.size + 1 + 1 + 1, 0, none⟩) 2 2] 25).alloc [I 0, .slice none 0 0, .slice none 0 0] 25).alloc [I 0, I 10, I 12, I 2, I 20, I 30] 31).alloc [I 0, I 1, I 3, I 5, I 1, I 2, I 4, I 8] 77)
  go_wp2_with fail
  refine wp_region_treeB (.node [0, 1, 2] [3] (fun _ => .last [] [4, 5])) 4 (by kernel_rfl) (by kernel_rfl) ?_
  intro KQ hKQ w5 hb
  have S := Lib.hid (S.out.call hb)
  clear hb
  have k0 := cell_regrown (S.out.get 3 0 rfl rfl)
  have k1 := cell_regrown (S.out.get 3 1 rfl rfl)
  have k2 := cell_regrown (S.out.get 3 2 rfl rfl)
  refine treeB_node ?_
  simp only [opsAt, List.filterMap_cons, List.filterMap_nil, List.getElem?_toArray, List.getElem?_cons_succ, List.getElem?_cons_zero]
  repeat (first | go_big_quiet_step (fail) | quiet_step (fail))
  refine wpQuiet_nil ?_
  refine all_one ?_
  intro K hK
  refine loud_op rfl rfl ?_
  go_simp
  have hr : TwnAt w5 (.agg #[I 3, .slice (some ⟨w.heap.size + 1 + 1, 0, none⟩) 2 2, .slice (some ⟨w.heap.size + 1 + 1 + 1, 0, none⟩) 2 2]) exT := ⟨_, _, rfl, S.out.boxReads 1 rfl rfl (by omega), S.out.boxReads 0 rfl rfl (by omega)⟩
  refine (sounded_any _ exT ⟨1, 18, 19⟩ _ hr (by decide) (by decide)).mono ?_
  rintro e w6 ⟨v', rfl, ⟨rv', sv', rfl, ho1, ho2⟩, hb⟩
  obtain ⟨Av, cv, rfl⟩ := own_shape ho1
  obtain ⟨Aw, cw, rfl⟩ := own_shape ho2
  have S := Lib.hid (S.out.take2 hb ho1 ho2 (by decide))
  refine hK _ _ hb ?_
  clear hK K hb ho1 ho2 hr k0 k1 k2
  refine treeB_last ?_
  simp only [opsAt, List.filterMap_cons, List.filterMap_nil, List.getElem?_toArray, List.getElem?_cons_succ, List.getElem?_cons_zero]
  refine wpQuiet_nil ?_
  have u0 := S.out.get 5 0 rfl rfl
  have u1 := S.out.get 5 1 rfl rfl
  have u2 := S.out.get 5 2 rfl rfl
  have u3 := S.out.free 5 0 rfl
  have u4 := S.out.free 5 1 rfl
  have u5 := S.out.free 5 2 rfl
  have S1 := Lib.hid (((S.out.set 5 0 (I 3) rfl).set 5 1 (.slice (some ⟨w.heap.size + 1 + 1, 0, none⟩) 2 2) rfl).set 5 2 (.slice (some ⟨w.heap.size + 1 + 1 + 1, 0, none⟩) 2 2) rfl)
  have v0 := S1.out.get 4 0 rfl rfl
  have v1 := S1.out.get 4 1 rfl rfl
  have v2 := S1.out.get 4 2 rfl rfl
  have v3 := S1.out.free 4 0 rfl
  have v4 := S1.out.free 4 1 rfl
  have v5 := S1.out.free 4 2 rfl
  have S2 := Lib.hid (((S1.out.set 4 0 (I (addS exT ⟨1, 18, 19⟩).wells) rfl).set 4 1 (.slice Av (addS exT ⟨1, 18, 19⟩).snd.length cv) rfl).set 4 2 (.slice Aw (addS exT ⟨1, 18, 19⟩).slp.length cw) rfl)
  have r0 := S2.out.get 5 0 rfl rfl
  have r1 := S2.out.get 5 1 rfl rfl
  have r2 := S2.out.get 5 2 rfl rfl
  have r3 := S2.out.get 4 0 rfl rfl
  have r4 := S2.out.get 4 1 rfl rfl
  have r5 := S2.out.get 4 2 rfl rfl
  go_wp2_with fail
  refine bodyPost_ret (v := .tuple #[.agg #[I 3, .slice (some ⟨w.heap.size + 1 + 1, 0, none⟩) 2 2, .slice (some ⟨w.heap.size + 1 + 1 + 1, 0, none⟩) 2 2], .agg #[I (addS exT ⟨1, 18, 19⟩).wells, .slice Av (addS exT ⟨1, 18, 19⟩).snd.length cv, .slice Aw (addS exT ⟨1, 18, 19⟩).slp.length cw]]) (by simp [results, Tryd.results36, go_sem, r0, r1, r2, r3, r4, r5]) rfl ⟨_, _, rfl, ⟨_, _, rfl, S2.out.boxReads 3 rfl rfl (by omega), S2.out.boxReads 2 rfl rfl (by omega)⟩, ⟨_, _, rfl, Reads.of_own (S2.out.own 0 rfl), Reads.of_own (S2.out.own 1 rfl)⟩, S2.out.bel⟩

end Go.Proofs.YtldcehhhndlhdaaDoor
