/- Walks: the reference's Copy and Told of a town of quarrels. -/
import Derived.Test.YtldcehhhndlhdaaDoorC15
import Derived.Test.YtldcehhhndlhdaaDoorC3
import Derived.Test.YtldcehhhndlhdaaDoorC13
import Derived.Test.YtldcehhhndlhdaaDoorC11
namespace Go.Proofs.YtldcehhhndlhdaaDoor
open Go.RowKit Go.Sort Go.Shelf

theorem cut_later9 {p q : Prop} (h1 : Hid p → q) (h2 : p) : q := h1 (Lib.hid h2)
theorem fct_one (f : QFact) : ∀ u ∈ f.cells, u.oneCell' = true := fun u hu => by
  simp [QFact.cells] at hu
  rcases hu with rfl | rfl | rfl | rfl | rfl <;> rfl
theorem fcts_one (l : List QFact) : ∀ u ∈ fctCells l, u.oneCell' = true := fun u hu => by
  obtain ⟨f, _, hu⟩ := List.mem_flatMap.1 hu
  exact fct_one f u hu
theorem St.addBox {w0 w : World} {n : Nat} {L : List Item} (h : St w0 w n L) {b : Nat} {cs : List Value} {T : TypeId} (hb : w0.heap.size ≤ b) (hh : w.heap[b]? = some (.cells cs.toArray T (0, 0))) (hne : ∀ x ∈ L, x.blk ≠ some b) : St w0 w n (.box b cs :: L) := by
  refine ⟨h.size, h.bel, fun x hx => ?_, ?_⟩
  · rcases List.mem_cons.1 hx with hx | hx
    · rw [hx]; exact ⟨hb, T, hh⟩
    · exact h.ok x hx
  · have e0 : (Item.box b cs).blk = some b := rfl
    rw [List.filterMap_cons, e0]
    refine List.nodup_cons.2 ⟨fun hm => ?_, h.apart⟩
    obtain ⟨x, hx, hxb⟩ := List.mem_filterMap.1 hm
    exact hne x hx hxb
theorem own_type {w : World} {B e s n b T : Nat} {v : Value} {xs : List Value} {cs : Array Value} (h : w.ownsRow B e s v n xs) (hh : w.heap[b]? = some (.cells cs T (0, 0))) (hne : e ≠ T) : v.ownBlock ≠ some b := by
  rcases h.2 with ⟨rfl, _⟩ | ⟨g, cap, cur, rfl, _, hg, _⟩
  · simp [Value.ownBlock]
  · intro e'
    have e2 : g = b := by simpa [Value.ownBlock] using e'
    rw [e2, hh] at hg
    cases hg
    exact hne rfl
/-- These things hold the worlds. -/
def Holds2 (Its : List Item) (us : List Value) (ws : List (List (List Int))) : Prop := ∀ (base : Nat) (W : World), (∀ x ∈ Its, x.ok base W) → ∀ (i : Nat) (u : Value) (l : List (List Int)), us[i]? = some u → ws[i]? = some l → LL W u l
theorem Holds2.snoc {Its Itk : List Item} {us : List Value} {ws : List (List (List Int))} {u : Value} {l : List (List Int)} (h : Holds2 Its us ws) (hl : us.length = ws.length) (k : HoldsL Itk u l) : Holds2 (Itk ++ Its) (us ++ [u]) (ws ++ [l]) := by
  intro base W hok i u' l' hu hl'
  by_cases hi : i < us.length
  · rw [List.getElem?_append_left hi] at hu
    rw [List.getElem?_append_left (by omega)] at hl'
    exact h base W (fun x hx => hok x (List.mem_append_right _ hx)) i u' l' hu hl'
  · rw [List.getElem?_append_right (by omega)] at hu
    rw [List.getElem?_append_right (by omega)] at hl'
    have e0 : i - us.length = 0 := by
      by_cases e : i - us.length = 0
      · exact e
      · rw [List.getElem?_eq_none (by simp; omega)] at hu; simp at hu
    rw [e0] at hu
    rw [← hl, e0] at hl'
    simp at hu hl'
    subst hu
    subst hl'
    exact k base W fun x hx => hok x (List.mem_append_left _ hx)
def HoldsW (Its : List Item) (v : Value) (ws : List (List (List Int))) : Prop := ∀ (base : Nat) (W : World), (∀ x ∈ Its, x.ok base W) → LW W v ws
theorem Holds2.done {Its : List Item} {us : List Value} {ws : List (List (List Int))} {v : Value} {e : Nat} (h : Holds2 Its us ws) (hl : us.length = ws.length) : HoldsW (.own e 1 v ws.length us :: Its) v ws := by
  intro base W hok
  exact ⟨us, hl, Reads.of_own (hok _ List.mem_cons_self), h base W fun x hx => hok x (List.mem_cons_of_mem _ hx)⟩
/-- Behind all fixed things: what was taken. -/
theorem St.mid4 {w0 w : World} {n : Nat} {a b c d : Item} {L M : List Item} (h : St w0 w n (M ++ ([a, b, c, d] ++ L))) : St w0 w n ([a, b, c, d] ++ (M ++ L)) := h.perm (by
  rw [← List.append_assoc, ← List.append_assoc]
  exact List.Perm.append_right _ List.perm_append_comm)
theorem St.mid5 {w0 w : World} {n : Nat} {a b c d e : Item} {L M : List Item} (h : St w0 w n (M ++ ([a, b, c, d, e] ++ L))) : St w0 w n ([a, b, c, d, e] ++ (M ++ L)) := h.perm (by
  rw [← List.append_assoc, ← List.append_assoc]
  exact List.Perm.append_right _ List.perm_append_comm)

set_option maxRecDepth 20000 in
set_option maxHeartbeats 4000000 in
theorem copy5_any (v : Value) (t : QTown) (w : World) (hv : QAt w v t) (hsm : t.wds.length ≤ 40 ∧ t.fcs.length ≤ 40 ∧ ∀ ls ∈ t.wds, ls.length ≤ 40 ∧ ∀ l ∈ ls, l.length ≤ 40) :
    Calls Tryd.prog 41 #[v] w fun e w' => ∃ wv fv, e = .returned (.agg #[I t.wells, wv, fv]) ∧ ∃ Its, St w w' w'.heap.size (.own 49 5 fv t.fcs.length (fctCells t.fcs) :: Its) ∧ HoldsW Its wv t.wds := by
  obtain ⟨wv, fv, rfl, hw, hf⟩ := hv
  obtain ⟨A1, c1, rfl, -, -, -⟩ := id hw.open_
  obtain ⟨A2, c2, rfl, -, -, -⟩ := id hf.open_
  have HW := Lib.hid hw
  have HF := Lib.hid hf
  have HSM := Lib.hid hsm
  have hs1 := hsm.1
  have hs2 := hsm.2.1
  have S := Lib.hid (show St w ((w.alloc (.cells #[I t.wells, .slice A1 t.wds.length c1, .slice A2 t.fcs.length c2] 29)).alloc (.cells #[I 0, .slice none 0 0, .slice none 0 0] 29)) (w.heap.size + 1 + 1) [.box (w.heap.size + 1) [I 0, .slice none 0 0, .slice none 0 0], .box w.heap.size [I t.wells, .slice A1 t.wds.length c1, .slice A2 t.fcs.length c2]] from ((St.init w).alloc [I t.wells, .slice A1 t.wds.length c1, .slice A2 t.fcs.length c2] 29).alloc [I 0, .slice none 0 0, .slice none 0 0] 29)
  obtain ⟨iF, hiF, hzF0, hzF1, hzF2⟩ := info_parts (P := Tryd.prog) (e := 49) (z := .agg #[.int .i64 0, .int .i64 0, .int .i64 0, .int .i64 0, .int .i64 0]) (size := 5) (bytes := 40) (by kernel_rfl)
  obtain ⟨iW, hiW, hzW0, hzW1, hzW2⟩ := info_parts (P := Tryd.prog) (e := 80) (z := .agg #[.slice none 0 0]) (size := 1) (bytes := 24) (by kernel_rfl)
  have h02 : 0 < 1 := by decide
  clear hw hf hsm
  go_enter Tryd.func41, Tryd.ntmps41
  go_wp2_with fail
  refine wp_region_treeB (.node [0, 1, 3, 4] [2, 7] (fun l => if l = 2 then .node [] [5, 7] (fun l => if l = 5 then .node [6] [7] (fun _ => .last [] [8]) else .node [] [5] (fun _ => .last [6] [8])) else .node [] [2] (fun _ => .node [] [5] (fun _ => .last [6] [8])))) 8 (by kernel_rfl) (by kernel_rfl) ?_
  intro KQ hKQ w1 hb
  have S := Lib.hid (S.out.call hb)
  clear hb
  have q0 := cell_regrown (S.out.get 1 0 rfl rfl)
  have q2 := cell_regrown (S.out.get 1 2 rfl rfl)
  apply cut_later9
  intro key
  · refine treeB_node ?_
    simp only [opsAt, List.filterMap_cons, List.filterMap_nil, List.getElem?_toArray, List.getElem?_cons_succ, List.getElem?_cons_zero]
    repeat (first | go_big_quiet_step (fail) | quiet_step (fail))
    refine wpQuiet_nil ?_
    refine all_two ?_ ?_
    · intro K hK
      refine loud_op rfl rfl ?_
      go_simp
      have hb := (Below.refl w1.heap.size w1).alloc (Nat.le_refl _) (.cells #[] 49)
      have hg := heap_alloc_new w1 (.cells #[] 49)
      obtain ⟨w2, hwd⟩ : ∃ x, w1.alloc (.cells #[] 49) = x := ⟨_, rfl⟩
      rw [hwd] at hb hg ⊢
      clear hwd
      have HBE := Lib.hid hb
      have HG := Lib.hid hg
      refine hK _ _ hb ?_
      clear hK K hb hg
      refine treeB_node ?_
      simp only [opsAt, List.filterMap_nil]
      refine wpQuiet_nil ?_
      refine all_two ?_ ?_
      · have HRB := Lib.hid (bto S.out.bel HBE.out)
        have HGS := Lib.hid HBE.out.size
        intro K hK
        refine loud_op rfl rfl ?_
        have hrd : Reads w2 5 _ t.fcs.length (fctCells t.fcs) := HF.out.below HRB.out
        refine wp_append_fresh _ (.tmp 7) (.tmp 9) 27 rfl w1.heap.size 49 iF (.agg #[.int .i64 0, .int .i64 0, .int .i64 0, .int .i64 0, .int .i64 0]) 5 40 Tryd.underlying27 hiF hzF0 hzF1 hzF2 rfl (by omega) w1.heap.size rfl HG.out (Nat.le_refl _) _ t.fcs.length (fctCells t.fcs) rfl hrd (fcts_one t.fcs) (by simp only [maxLen]; omega) (by omega) HGS.out ?_
        intro v' w3 hown hb2
        obtain ⟨Af, cf, rfl⟩ := own_shape hown
        have HB2 := Lib.hid (bto HBE.out hb2)
        replace S := Lib.hid (S.out.take (bto HBE.out hb2) hown)
        refine hK _ _ HB2.out ?_
        clear hK K hb2 hrd hown HBE HG HRB HGS
        refine treeB_node ?_
        simp only [opsAt, List.filterMap_cons, List.filterMap_nil, List.getElem?_toArray, List.getElem?_cons_succ, List.getElem?_cons_zero]
        repeat (first | go_big_quiet_step (fail) | quiet_step (fail))
        refine wpQuiet_nil ?_
        refine all_one ?_
        intro K hK
        refine loud_op rfl rfl ?_
        go_simp
        refine hK _ _ (HB2.out.alloc HB2.out.size _) ?_
        clear hK K
        replace S := Lib.hid (S.out.alloc [I 0, .slice none 0 0, .slice none 0 0] 29)
        refine treeB_last ?_
        simp only [opsAt, List.filterMap_cons, List.filterMap_nil, List.getElem?_toArray, List.getElem?_cons_succ, List.getElem?_cons_zero]
        refine wpQuiet_nil ?_
        clear HB2
        replace S := Lib.hid S.out.fix
        obtain ⟨g, hg⟩ : ∃ x, w1.heap.size = x := ⟨_, rfl⟩
        obtain ⟨Bo, hBo⟩ : ∃ x, w3.heap.size = x := ⟨_, rfl⟩
        rw [hg]
        rw [hBo] at S ⊢
        obtain ⟨wz, hwz⟩ : ∃ x, w3.alloc (.cells #[I 0, .slice none 0 0, .slice none 0 0] 29) = x := ⟨_, rfl⟩
        rw [hwz] at S ⊢
        clear hg hBo hwz
        revert S
        revert wz
        revert cf
        revert Af
        revert g
        revert Bo
        exact key.out
      · intro K hK
        refine loud_op rfl rfl ?_
        go_simp
        refine hK _ _ (HBE.out.alloc HBE.out.size _) ?_
        clear hK K
        have HB3 := Lib.hid (HBE.out.alloc HBE.out.size (.cells #[I 0, .slice none 0 0, .slice none 0 0] 29))
        have HN := Lib.hid (heap_alloc_new w2 (.cells #[I 0, .slice none 0 0, .slice none 0 0] 29))
        have HG := Lib.hid ((heap_alloc_old w2 (.cells #[I 0, .slice none 0 0, .slice none 0 0] 29) (r := w1.heap.size) (lt_of_block HG.out)).trans HG.out)
        have hBE := HBE.out.size
        obtain ⟨w3, hw3⟩ : ∃ x, w2.alloc (.cells #[I 0, .slice none 0 0, .slice none 0 0] 29) = x := ⟨_, rfl⟩
        rw [hw3] at HB3 HN HG ⊢
        clear hw3
        refine treeB_node ?_
        simp only [opsAt, List.filterMap_nil]
        refine wpQuiet_nil ?_
        refine all_one ?_
        have HRB := Lib.hid (bto S.out.bel HB3.out)
        have HGS := Lib.hid HB3.out.size
        intro K hK
        refine loud_op rfl rfl ?_
        have hrd : Reads w3 5 _ t.fcs.length (fctCells t.fcs) := HF.out.below HRB.out
        refine wp_append_fresh _ (.tmp 7) (.tmp 9) 27 rfl w1.heap.size 49 iF (.agg #[.int .i64 0, .int .i64 0, .int .i64 0, .int .i64 0, .int .i64 0]) 5 40 Tryd.underlying27 hiF hzF0 hzF1 hzF2 rfl (by omega) w1.heap.size rfl HG.out (Nat.le_refl _) _ t.fcs.length (fctCells t.fcs) rfl hrd (fcts_one t.fcs) (by simp only [maxLen]; omega) (by omega) HGS.out ?_
        intro v' w4 hown hb2
        obtain ⟨Af, cf, rfl⟩ := own_shape hown
        have hl0 := S.out.lt 0 rfl
        have hl1 := S.out.lt 1 rfl
        have HNN := Lib.hid ((hb2.block _ (lt_of_block HN.out)).trans HN.out)
        have HTY := Lib.hid (own_type hown HNN.out (by decide))
        have hww := S.out.bel.size
        replace S := Lib.hid (S.out.take (bto HB3.out hb2) hown)
        replace S := Lib.hid (S.out.addBox (b := w2.heap.size) (cs := [I 0, .slice none 0 0, .slice none 0 0]) (by omega) HNN.out (by
          intro x hx
          simp only [List.mem_cons, List.not_mem_nil, or_false] at hx
          rcases hx with rfl | rfl | rfl
          · exact HTY.out
          · simp [Item.blk]; omega
          · simp [Item.blk]; omega))
        refine hK _ _ (bto HB3.out hb2) ?_
        clear hK K hb2 hrd hown HBE HG HRB HGS HB3 HN HNN HTY hl0 hl1 hww hBE
        refine treeB_last ?_
        simp only [opsAt, List.filterMap_cons, List.filterMap_nil, List.getElem?_toArray, List.getElem?_cons_succ, List.getElem?_cons_zero]
        repeat (first | go_big_quiet_step (fail) | quiet_step (fail))
        refine wpQuiet_nil ?_
        replace S := Lib.hid S.out.fix
        obtain ⟨g, hg⟩ : ∃ x, w1.heap.size = x := ⟨_, rfl⟩
        obtain ⟨Bo, hBo⟩ : ∃ x, w2.heap.size = x := ⟨_, rfl⟩
        rw [hBo] at S ⊢
        rw [hg]
        clear hg hBo
        revert S
        revert w4
        revert cf
        revert Af
        revert g
        revert Bo
        exact key.out
    · intro K hK
      refine loud_op rfl rfl ?_
      go_simp
      refine hK _ _ ((Below.refl _ _).alloc (Nat.le_refl _) _) ?_
      clear hK K
      have HB1 := Lib.hid ((Below.refl w1.heap.size w1).alloc (Nat.le_refl _) (.cells #[I 0, .slice none 0 0, .slice none 0 0] 29))
      replace S := Lib.hid (S.out.alloc [I 0, .slice none 0 0, .slice none 0 0] 29)
      obtain ⟨w2, hw2⟩ : ∃ x, w1.alloc (.cells #[I 0, .slice none 0 0, .slice none 0 0] 29) = x := ⟨_, rfl⟩
      rw [hw2] at HB1 S ⊢
      clear hw2
      refine treeB_node ?_
      simp only [opsAt, List.filterMap_nil]
      refine wpQuiet_nil ?_
      refine all_one ?_
      intro K hK
      refine loud_op rfl rfl ?_
      go_simp
      have hb := (Below.refl w2.heap.size w2).alloc (Nat.le_refl _) (.cells #[] 49)
      have hg := heap_alloc_new w2 (.cells #[] 49)
      obtain ⟨w3, hwd⟩ : ∃ x, w2.alloc (.cells #[] 49) = x := ⟨_, rfl⟩
      rw [hwd] at hb hg ⊢
      clear hwd
      have HBE := Lib.hid hb
      have HG := Lib.hid hg
      refine hK _ _ (bto HB1.out hb) ?_
      clear hK K hb hg
      refine treeB_node ?_
      simp only [opsAt, List.filterMap_nil]
      refine wpQuiet_nil ?_
      refine all_one ?_
      have HRB := Lib.hid (bto S.out.bel HBE.out)
      have HGS := Lib.hid HBE.out.size
      intro K hK
      refine loud_op rfl rfl ?_
      have hrd : Reads w3 5 _ t.fcs.length (fctCells t.fcs) := HF.out.below HRB.out
      refine wp_append_fresh _ (.tmp 7) (.tmp 9) 27 rfl w2.heap.size 49 iF (.agg #[.int .i64 0, .int .i64 0, .int .i64 0, .int .i64 0, .int .i64 0]) 5 40 Tryd.underlying27 hiF hzF0 hzF1 hzF2 rfl (by omega) w2.heap.size rfl HG.out (Nat.le_refl _) _ t.fcs.length (fctCells t.fcs) rfl hrd (fcts_one t.fcs) (by simp only [maxLen]; omega) (by omega) HGS.out ?_
      intro v' w4 hown hb2
      obtain ⟨Af, cf, rfl⟩ := own_shape hown
      replace S := Lib.hid ((S.out.take (bto HBE.out hb2) hown).perm (List.Perm.swap _ _ _))
      refine hK _ _ (bto HB1.out (bto HBE.out hb2)) ?_
      clear hK K hb2 hrd hown HBE HG HRB HGS HB1
      refine treeB_last ?_
      simp only [opsAt, List.filterMap_cons, List.filterMap_nil, List.getElem?_toArray, List.getElem?_cons_succ, List.getElem?_cons_zero]
      repeat (first | go_big_quiet_step (fail) | quiet_step (fail))
      refine wpQuiet_nil ?_
      replace S := Lib.hid S.out.fix
      obtain ⟨g, hg⟩ : ∃ x, w2.heap.size = x := ⟨_, rfl⟩
      obtain ⟨Bo, hBo⟩ : ∃ x, w1.heap.size = x := ⟨_, rfl⟩
      rw [hBo] at S ⊢
      rw [hg]
      clear hg hBo
      revert S
      revert w4
      revert cf
      revert Af
      revert g
      revert Bo
      exact key.out
  · intro Bo g Af cf wz S
    have z0 := S.out.free 0 0 rfl
    have z1 := S.out.free 0 1 rfl
    have z2 := S.out.free 0 2 rfl
    have y0 := S.out.get 0 0 rfl rfl
    have y1 := S.out.get 0 1 rfl rfl
    have y2 := S.out.get 0 2 rfl rfl
    have S := Lib.hid (((S.out.set 0 0 (I t.wells) rfl).set 0 1 (.slice none 0 0) rfl).set 0 2 (.slice Af t.fcs.length cf) rfl)
    go_wp2_with fail
    clear z0 z1 z2 y0 y1 y2 q0 q2
    have S := Lib.hid ((S.out.perm (M := [.own 49 5 (.slice Af t.fcs.length cf) t.fcs.length (fctCells t.fcs), .box Bo [I t.wells, .slice none 0 0, .slice Af t.fcs.length cf], .box (w.heap.size + 1) [I 0, .slice none 0 0, .slice none 0 0], .box w.heap.size [I t.wells, .slice A1 t.wds.length c1, .slice A2 t.fcs.length c2]]) (List.Perm.swap _ _ _)).nil 80 1)
    go_loopw [4] (fun i wr => ∃ (k : Nat) (us : List Value) (Its : List Item) (Ao : Option Addr) (co : Nat), k ≤ t.wds.length ∧ i = I k ∧ Hid (us.length = k ∧ Holds2 Its us (t.wds.take k)) ∧ Hid (St w wr wr.heap.size ([.own 80 1 (.slice Ao k co) k us, .own 49 5 (.slice Af t.fcs.length cf) t.fcs.length (fctCells t.fcs), .box Bo [I t.wells, (.slice Ao k co), .slice Af t.fcs.length cf], .box (w.heap.size + 1) [I 0, .slice none 0 0, .slice none 0 0], .box w.heap.size [I t.wells, .slice A1 t.wds.length c1, .slice A2 t.fcs.length c2]] ++ Its))) (fun i _ => t.wds.length - (intOf i).toNat)
    case atStart => exact ⟨0, [], [], none, 0, by omega, rfl, Lib.hid ⟨rfl, fun _ _ _ i u l hu _ => by simp at hu⟩, Lib.hid S.out.fix⟩
    case round =>
      clear S
      obtain ⟨k, us, Its, Ao, co, hk, rfl, HH, S⟩ := hrel
      have q1 := S.out.get 4 1 rfl rfl
      by_cases hlt : k < t.wds.length
      · have hki : (k : Int) < (t.wds.length : Int) := by omega
        obtain ⟨ls, hl, hlm⟩ : ∃ ls, t.wds[k]? = some ls ∧ ls ∈ t.wds := ⟨_, List.getElem?_eq_getElem hlt, List.getElem_mem hlt⟩
        obtain ⟨b1, o1, cw, Au, cu, e, hu, hil⟩ := HW.out.some_ hl
        obtain ⟨hA1, -, -⟩ := qslice_inj e
        subst hA1
        have HIL := Lib.hid hil
        have HU := Lib.hid hu
        have HLS := Lib.hid hl
        have HLM := Lib.hid hlm
        clear e hu hil hl hlm
        go_wp2_with fail
        clear q1
        refine wp_region_treeB (.node [0, 1, 2, 3, 4, 5, 6] [7] (fun _ => .node [] [8] (fun _ => .last [] [9, 10, 11]))) 9 (by kernel_rfl) (by kernel_rfl) ?_
        intro KQ hKQ w1 hb
        have S := Lib.hid (S.out.call hb)
        clear hb
        have q1 := cell_regrown (S.out.get 4 1 rfl rfl)
        have p1 := cell_regrown (S.out.get 2 1 rfl rfl)
        have yu := cell_regrown (keep_cell S.out.bel HU.out)
        refine treeB_node ?_
        simp only [opsAt, List.filterMap_cons, List.filterMap_nil, List.getElem?_toArray, List.getElem?_cons_succ, List.getElem?_cons_zero]
        repeat (first | go_big_quiet_step (fail) | quiet_step (fail))
        refine wpQuiet_nil ?_
        refine all_one ?_
        intro K hK
        refine loud_op rfl rfl ?_
        go_simp
        refine (copyWorld_any _ ls _ (HIL.out.below S.out.bel) (HSM.out.2.2 ls HLM.out)).mono ?_
        rintro e w2 ⟨v', rfl, Itk, hSt, hold⟩
        obtain ⟨Ar, cr, rfl⟩ : ∃ Ar cr, v' = .slice Ar ls.length cr := by
          obtain ⟨A, c, h, -⟩ := (hold w1.heap.size w2 hSt.ok).open_
          exact ⟨A, c, h⟩
        have HOLD := Lib.hid hold
        have HB2 := Lib.hid hSt.bel
        have S := Lib.hid (S.out.takeL hSt)
        refine hK _ _ HB2.out ?_
        clear hK K hSt hold q1 p1 yu
        have S := Lib.hid (show St w w2 w2.heap.size ([.own 80 1 (.slice Ao k co) k us, .own 49 5 (.slice Af t.fcs.length cf) t.fcs.length (fctCells t.fcs), .box Bo [I t.wells, (.slice Ao k co), .slice Af t.fcs.length cf], .box (w.heap.size + 1) [I 0, .slice none 0 0, .slice none 0 0], .box w.heap.size _] ++ (Itk ++ Its)) from St.mid5 S.out)
        refine treeB_node ?_
        simp only [opsAt, List.filterMap_nil]
        refine wpQuiet_nil ?_
        refine all_one ?_
        intro K hK
        refine loud_op rfl rfl ?_
        go_simp
        refine hK _ _ (HB2.out.alloc HB2.out.size _) ?_
        have S := Lib.hid (S.out.alloc [.slice Ar ls.length cr] 80)
        clear hK K HB2
        refine treeB_last ?_
        simp only [opsAt, List.filterMap_cons, List.filterMap_nil, List.getElem?_toArray, List.getElem?_cons_succ, List.getElem?_cons_zero]
        refine wpQuiet_nil ?_
        have h63 : k + 1 ≤ maxLen := by simp only [maxLen]; omega
        have hby : (k + 1) * 24 ≤ 140737488355328 := by omega
        refine wpList_append_St S.out 1 rfl _ _ 26 rfl 80 iW (.agg #[.slice none 0 0]) 1 24 Tryd.underlying26 hiW hzW0 hzW1 hzW2 rfl h02 rfl rfl _ 1 [.slice Ar ls.length cr] rfl (reads_box1 (S.out.get 0 0 rfl rfl)) (slice_one _ _ _) h63 hby ?_
        intro v5 w5 hS5
        obtain ⟨A2', c2', rfl⟩ := own_shape (hS5.own 1 rfl)
        have S := Lib.hid hS5
        clear hS5
        have p1 := S.out.get 3 1 rfl rfl
        have z1 := S.out.free 3 1 rfl
        have S2 := Lib.hid (S.out.set 3 1 (.slice A2' (k + 1) c2') rfl)
        go_wp2_with fail
        go_roundw
        case rel =>
          refine ⟨k + 1, us ++ [Value.slice Ar ls.length cr], Itk ++ Its, A2', c2', by omega, by go_num, Lib.hid ⟨by simp [HH.out.1], ?_⟩, Lib.hid (by exact S2.out.fix.tail)⟩
          have h := HH.out.2.snoc (by rw [HH.out.1]; simp; omega) HOLD.out
          rw [show t.wds.take (k + 1) = t.wds.take k ++ [ls] from by rw [List.take_add_one, HLS.out]; rfl]
          exact h
        case measure => first | (simp [intOf]; done) | (simp [intOf]; omega)
      · obtain rfl : k = t.wds.length := by omega
        have hki : ¬ (t.wds.length : Int) < (t.wds.length : Int) := by omega
        have p0 := S.out.get 2 0 rfl rfl
        have p1 := S.out.get 2 1 rfl rfl
        have p2 := S.out.get 2 2 rfl rfl
        have r0 := S.out.get 3 0 rfl rfl
        have r1 := S.out.get 3 1 rfl rfl
        have r2 := S.out.get 3 2 rfl rfl
        have z0 := S.out.free 3 0 rfl
        have z1 := S.out.free 3 1 rfl
        have z2 := S.out.free 3 2 rfl
        have S2 := Lib.hid (((S.out.set 3 0 (I t.wells) rfl).set 3 1 (.slice Ao t.wds.length co) rfl).set 3 2 (.slice Af t.fcs.length cf) rfl)
        have s0 := S2.out.get 3 0 rfl rfl
        have s1 := S2.out.get 3 1 rfl rfl
        have s2 := S2.out.get 3 2 rfl rfl
        go_wp2_with fail
        refine bodyPost_ret (v := .agg #[I t.wells, .slice Ao t.wds.length co, .slice Af t.fcs.length cf]) (by simp [results, Tryd.results41, go_sem, s0, s1, s2]) rfl ?_
        refine ⟨_, _, rfl, .own 80 1 (.slice Ao t.wds.length co) t.wds.length us :: Its, ?_, ?_⟩
        · have h := (S2.out.less (M := .own 80 1 (.slice Ao t.wds.length co) t.wds.length us :: .own 49 5 (.slice Af t.fcs.length cf) t.fcs.length (fctCells t.fcs) :: Its) (.cons_cons _ (.cons_cons _ (.cons _ (.cons _ (.cons _ (List.Sublist.refl _))))))).fix
          exact h.perm (List.Perm.swap _ _ _)
        · exact Holds2.done (by have h := HH.out.2; rw [List.take_length] at h; exact h) HH.out.1

end Go.Proofs.YtldcehhhndlhdaaDoor
/- Walks: the reference's Told; the example of quarrels. -/
namespace Go.Proofs.YtldcehhhndlhdaaDoor
open Go.RowKit Go.Sort Go.Shelf

theorem fctCells_snoc (l : List QFact) (f : QFact) : fctCells (l ++ [f]) = fctCells l ++ f.cells := by simp [fctCells]
def QTown.addF (t : QTown) (f : QFact) : QTown := ⟨t.wells, t.wds, t.fcs ++ [f]⟩
set_option maxRecDepth 20000 in
set_option maxHeartbeats 4000000 in
theorem told_any (v : Value) (t : QTown) (f : QFact) (w : World) (hv : QAt w v t) (hsm : t.wds.length ≤ 40 ∧ t.fcs.length ≤ 40 ∧ ∀ ls ∈ t.wds, ls.length ≤ 40 ∧ ∀ l ∈ ls, l.length ≤ 40) :
    Calls Tryd.prog 16 #[v, .agg #[I f.fr, I f.many, I f.to, I f.low, I f.high]] w fun e w' => ∃ wv fv, e = .returned (.agg #[I t.wells, wv, fv]) ∧ ∃ Its, St w w' w'.heap.size (.own 49 5 fv (t.addF f).fcs.length (fctCells (t.addF f).fcs) :: Its) ∧ HoldsW Its wv t.wds := by
  obtain ⟨wv, fv, rfl, hw, hf⟩ := hv
  have HW := Lib.hid hw
  have HF := Lib.hid hf
  obtain ⟨A1, c1, rfl, -, -, -⟩ := id hw.open_
  obtain ⟨A2, c2, rfl, -, -, -⟩ := id hf.open_
  clear hw hf
  have HSM := Lib.hid hsm
  have hs2 := hsm.2.1
  clear hsm
  have S := Lib.hid ((((St.init w).alloc [I t.wells, .slice A1 t.wds.length c1, .slice A2 t.fcs.length c2] 29).alloc [I f.fr, I f.many, I f.to, I f.low, I f.high] 49).alloc [I 0, .slice none 0 0, .slice none 0 0] 29)
  obtain ⟨i0, hi, hz0, hz1, hz2⟩ := info_parts (P := Tryd.prog) (e := 49) (z := .agg #[.int .i64 0, .int .i64 0, .int .i64 0, .int .i64 0, .int .i64 0]) (size := 5) (bytes := 40) (by kernel_rfl)
  have q0 := S.out.get 2 0 rfl rfl
  have q1 := S.out.get 2 1 rfl rfl
  have q2 := S.out.get 2 2 rfl rfl
  have p0 := S.out.get 1 0 rfl rfl
  have p1 := S.out.get 1 1 rfl rfl
  have p2 := S.out.get 1 2 rfl rfl
  have p3 := S.out.get 1 3 rfl rfl
  have p4 := S.out.get 1 4 rfl rfl
  have h63 : t.fcs.length + 1 ≤ maxLen := by simp only [maxLen]; omega
  have hby : (t.fcs.length + 1) * 40 ≤ 140737488355328 := by omega
  have h02 : 0 < 5 := by decide
  go_enter Tryd.func16, Tryd.ntmps16
  go_wp2_with fail
  clear q0 q1 q2 p0 p1 p2 p3 p4
  refine (copy5_any _ t _ ⟨_, _, rfl, HW.out.below S.out.bel, HF.out.below S.out.bel⟩ HSM.out).mono ?_
  rintro e w1 ⟨wv', fv', rfl, Its, hSt, hold⟩
  obtain ⟨Aw, cw, rfl⟩ := own_shape (hSt.own 0 rfl)
  obtain ⟨Av, cv, rfl⟩ : ∃ Ar cr, wv' = .slice Ar t.wds.length cr := by
    obtain ⟨A, c, h, -⟩ := (hold _ w1 (fun x hx => hSt.ok x (List.mem_cons_of_mem _ hx))).open_
    exact ⟨A, c, h⟩
  have HOLD := Lib.hid hold
  have S := Lib.hid ((show St w w1 w1.heap.size ([.own 49 5 (.slice Aw t.fcs.length cw) t.fcs.length (fctCells t.fcs), .box (w.heap.size + 1 + 1) [I 0, .slice none 0 0, .slice none 0 0], .box (w.heap.size + 1) [I f.fr, I f.many, I f.to, I f.low, I f.high], .box w.heap.size [I t.wells, .slice A1 t.wds.length c1, .slice A2 t.fcs.length c2]] ++ Its) from (S.out.takeL hSt).perm (List.Perm.cons _ List.perm_append_comm)).alloc [I t.wells, .slice Av t.wds.length cv, .slice Aw t.fcs.length cw] 29)
  clear hSt hold
  have k0 := S.out.get 0 2 rfl rfl
  have k1 := S.out.get 3 0 rfl rfl
  have k2 := S.out.get 3 1 rfl rfl
  have k3 := S.out.get 3 2 rfl rfl
  have k4 := S.out.get 3 3 rfl rfl
  have k5 := S.out.get 3 4 rfl rfl
  have T := Lib.hid (S.out.alloc [I f.fr, I f.many, I f.to, I f.low, I f.high] 49)
  go_wp2_with (at_builtin; refine wpList_append_St T.out 2 rfl _ _ 27 rfl 49 i0 (.agg #[.int .i64 0, .int .i64 0, .int .i64 0, .int .i64 0, .int .i64 0]) 5 40 Tryd.underlying27 hi hz0 hz1 hz2 rfl h02 rfl rfl _ 1 [I f.fr, I f.many, I f.to, I f.low, I f.high] rfl (T.out.boxReads 0 rfl rfl (by omega)) (fct_one f) h63 hby ?_; intro v5 w5 hS5; obtain ⟨A5, c5, rfl⟩ := own_shape (hS5.own 2 rfl); have S := Lib.hid hS5; clear hS5 k0 k1 k2 k3 k4 k5; have u0 := S.out.get 1 2 rfl rfl; have u1 := S.out.free 1 2 rfl; have S2 := Lib.hid (S.out.set 1 2 (.slice A5 (t.fcs.length + 1) c5) rfl); have u2 := S2.out.get 1 0 rfl rfl; have u3 := S2.out.get 1 1 rfl rfl; have u4 := S2.out.get 1 2 rfl rfl; have u5 := S2.out.get 3 0 rfl rfl; have u6 := S2.out.get 3 1 rfl rfl; have u7 := S2.out.get 3 2 rfl rfl; have u8 := S2.out.free 3 0 rfl; have u9 := S2.out.free 3 1 rfl; have ua := S2.out.free 3 2 rfl; have S3 := Lib.hid (((S2.out.set 3 0 (I t.wells) rfl).set 3 1 (.slice Av t.wds.length cv) rfl).set 3 2 (.slice A5 (t.fcs.length + 1) c5) rfl); have r0 := S3.out.get 3 0 rfl rfl; have r1 := S3.out.get 3 1 rfl rfl; have r2 := S3.out.get 3 2 rfl rfl)
  refine bodyPost_ret (v := .agg #[I t.wells, .slice Av t.wds.length cv, .slice A5 (t.fcs.length + 1) c5]) (by simp [results, Tryd.results16, go_sem, r0, r1, r2]) rfl ⟨_, _, rfl, Its, ?_, HOLD.out⟩
  have h := (S3.out.less (M := .own 49 5 (.slice A5 (t.fcs.length + 1) c5) (t.fcs.length + 1) (fctCells t.fcs ++ [I f.fr, I f.many, I f.to, I f.low, I f.high]) :: Its) (.cons _ (.cons _ (.cons_cons _ (.cons _ (.cons _ (.cons _ (List.Sublist.refl _)))))))).fix
  simpa [QTown.addF, fctCells_snoc, QFact.cells] using h

theorem told_qat {w w' : World} {wv fv : Value} {t : QTown} {f : QFact} {Its : List Item} (S : St w w' w'.heap.size (.own 49 5 fv (t.addF f).fcs.length (fctCells (t.addF f).fcs) :: Its)) (h : HoldsW Its wv t.wds) : QAt w' (.agg #[I t.wells, wv, fv]) (t.addF f) :=
  ⟨wv, fv, rfl, h _ w' fun x hx => S.ok x (List.mem_cons_of_mem _ hx), Reads.of_own (S.own 0 rfl)⟩
theorem LL.two {W : World} {v u1 u2 : Value} {l1 l2 : List Int} (hr : Reads W 1 v 2 [u1, u2]) (h1 : Ints W u1 l1) (h2 : Ints W u2 l2) : LL W v [l1, l2] := by
  refine ⟨[u1, u2], rfl, hr, fun i u l hu hl => ?_⟩
  match i, hu, hl with
  | 0, hu, hl => simp at hu hl; subst hu; subst hl; exact h1
  | 1, hu, hl => simp at hu hl; subst hu; subst hl; exact h2
  | i + 2, hu, _ => simp at hu
theorem LW.three {W : World} {v u1 u2 u3 : Value} {l1 l2 l3 : List (List Int)} (hr : Reads W 1 v 3 [u1, u2, u3]) (h1 : LL W u1 l1) (h2 : LL W u2 l2) (h3 : LL W u3 l3) : LW W v [l1, l2, l3] := by
  refine ⟨[u1, u2, u3], rfl, hr, fun i u l hu hl => ?_⟩
  match i, hu, hl with
  | 0, hu, hl => simp at hu hl; subst hu; subst hl; exact h1
  | 1, hu, hl => simp at hu hl; subst hu; subst hl; exact h2
  | 2, hu, hl => simp at hu hl; subst hu; subst hl; exact h3
  | i + 3, hu, _ => simp at hu
theorem Fcts.none (W : World) : Fcts W (.slice none 0 0) [] := ⟨rfl, Option.none, 0, rfl, Nat.le_refl _, by omega, fun h => absurd h (by decide)⟩
def exQ5 : QTown := ⟨2, [[[3, 1], [0, 2]], [[3, 2], [1, 2]], [[3, 1], [2, 2]]], []⟩
set_option maxRecDepth 20000 in
set_option maxHeartbeats 4000000 in
theorem example5_any (w : World) :
    Calls Tryd.prog 37 #[] w fun e w' => ∃ v1 v2, e = .returned (.tuple #[v1, v2]) ∧ QAt w' v1 (exQ5.addF ⟨0, 2, 1, 2, 3⟩) ∧ QAt w' v2 exQ5 ∧ Below w.heap.size w w' := by
  have S := Lib.hid (((St.init w).alloc [I 0, .slice none 0 0, .slice none 0 0] 29).alloc [I 0, .slice none 0 0, .slice none 0 0] 29)
  go_enter Tryd.func37, Tryd.ntmps37
  have S := Lib.hid (((((((((((((St.init w).alloc [I 0, .slice none 0 0, .slice none 0 0] 29).alloc [I 2, (.slice (some ⟨w.heap.size + 1 + 1 + 1 + 1 + 1 + 1 + 1 + 1 + 1 + 1 + 1, 0, none⟩) 3 3), .slice none 0 0] 29).alloc [I 3, I 1] 3).alloc [I 0, I 2] 3).alloc [(.slice (some ⟨w.heap.size + 1 + 1, 0, none⟩) 2 2), (.slice (some ⟨w.heap.size + 1 + 1 + 1, 0, none⟩) 2 2)] 53).alloc [I 3, I 2] 3).alloc [I 1, I 2] 3).alloc [(.slice (some ⟨w.heap.size + 1 + 1 + 1 + 1 + 1, 0, none⟩) 2 2), (.slice (some ⟨w.heap.size + 1 + 1 + 1 + 1 + 1 + 1, 0, none⟩) 2 2)] 53).alloc [I 3, I 1] 3).alloc [I 2, I 2] 3).alloc [(.slice (some ⟨w.heap.size + 1 + 1 + 1 + 1 + 1 + 1 + 1 + 1, 0, none⟩) 2 2), (.slice (some ⟨w.heap.size + 1 + 1 + 1 + 1 + 1 + 1 + 1 + 1 + 1, 0, none⟩) 2 2)] 53).alloc [(.slice (some ⟨w.heap.size + 1 + 1 + 1 + 1, 0, none⟩) 2 2), (.slice (some ⟨w.heap.size + 1 + 1 + 1 + 1 + 1 + 1 + 1, 0, none⟩) 2 2), (.slice (some ⟨w.heap.size + 1 + 1 + 1 + 1 + 1 + 1 + 1 + 1 + 1 + 1, 0, none⟩) 2 2)] 80)
  go_wp2_with fail
  refine wp_region_treeC (.node [0, 1, 3] [2] (fun _ => .node [] [4] (fun _ => .last [] [5]))) 5 (by kernel_rfl) (by kernel_rfl) ?_
  intro KQ hKQ w5 hb
  have S := Lib.hid (S.out.call hb)
  clear hb
  have k0 := S.out.get 10 0 rfl rfl
  have k1 := S.out.get 10 1 rfl rfl
  have k2 := S.out.get 10 2 rfl rfl
  have hgl := S.out.lt 11 rfl
  refine ⟨CP w5 w.heap.size, CP.refl w5 hgl, ?_⟩
  have k0 := cell_patched k0 (g := w.heap.size) (by omega)
  have k1 := cell_patched k1 (g := w.heap.size) (by omega)
  have k2 := cell_patched k2 (g := w.heap.size) (by omega)
  refine treeC_node ?_
  simp only [opsAt, List.filterMap_cons, List.filterMap_nil, List.getElem?_toArray, List.getElem?_cons_succ, List.getElem?_cons_zero]
  repeat (first | go_big_quiet_step (fail) | quiet_step (fail))
  refine wpQuiet_nil ?_
  refine all_one ?_
  intro K hK
  refine loud_op rfl rfl ?_
  go_simp
  have hlw : LW w5 (.slice (some ⟨w.heap.size + 1 + 1 + 1 + 1 + 1 + 1 + 1 + 1 + 1 + 1 + 1, 0, none⟩) 3 3) exQ5.wds := LW.three (S.out.boxReads 0 rfl rfl (by omega)) (LL.two (S.out.boxReads 7 rfl rfl (by omega)) (S.out.boxReads 9 rfl rfl (by omega)) (S.out.boxReads 8 rfl rfl (by omega))) (LL.two (S.out.boxReads 4 rfl rfl (by omega)) (S.out.boxReads 6 rfl rfl (by omega)) (S.out.boxReads 5 rfl rfl (by omega))) (LL.two (S.out.boxReads 1 rfl rfl (by omega)) (S.out.boxReads 3 rfl rfl (by omega)) (S.out.boxReads 2 rfl rfl (by omega)))
  have hr : QAt w5 (.agg #[I 2, (.slice (some ⟨w.heap.size + 1 + 1 + 1 + 1 + 1 + 1 + 1 + 1 + 1 + 1 + 1, 0, none⟩) 3 3), .slice none 0 0]) exQ5 := ⟨_, _, rfl, hlw, Fcts.none _⟩
  refine (told_any _ exQ5 ⟨0, 2, 1, 2, 3⟩ _ hr (by decide)).mono ?_
  rintro e w6 ⟨wv', fv', rfl, Its, hSt, hold⟩
  obtain ⟨Af, cf, rfl⟩ := own_shape (hSt.own 0 rfl)
  obtain ⟨Aw, cw, rfl⟩ : ∃ Ar cr, wv' = .slice Ar exQ5.wds.length cr := by
    obtain ⟨A, c, h, -⟩ := (hold _ w6 (fun x hx => hSt.ok x (List.mem_cons_of_mem _ hx))).open_
    exact ⟨A, c, h⟩
  have HOLD := Lib.hid hold
  have hb := hSt.bel
  have S := Lib.hid ((S.out.takeL hSt).perm List.perm_append_comm)
  refine hK _ _ (CP.of (grown_of_below hb _) hgl) ?_
  have HB := Lib.hid hb
  clear hK K hb hr hlw hold hSt k0 k1 k2
  refine treeC_node ?_
  simp only [opsAt, List.filterMap_nil]
  refine wpQuiet_nil ?_
  refine all_one ?_
  intro K hK
  have g0 := S.out.get 11 0 rfl rfl
  have f0 := S.out.free 11 0 rfl
  have S1 := Lib.hid (S.out.set 11 0 (I exQ5.wells) rfl)
  have g1 := S1.out.get 11 1 rfl rfl
  have f1 := S1.out.free 11 1 rfl
  have S2 := Lib.hid (S1.out.set 11 1 (.slice Aw exQ5.wds.length cw) rfl)
  have g2 := S2.out.get 11 2 rfl rfl
  have f2 := S2.out.free 11 2 rfl
  have S3 := Lib.hid (S2.out.set 11 2 (.slice Af (exQ5.addF ⟨0, 2, 1, 2, 3⟩).fcs.length cf) rfl)
  have HC := Lib.hid (CP.of ((grown_of_below HB.out (some w.heap.size)).trans ((grown_setCell _ ⟨w.heap.size, 0, none⟩ (I exQ5.wells)).trans ((grown_setCell _ ⟨w.heap.size, 1, none⟩ (.slice Aw exQ5.wds.length cw)).trans (grown_setCell _ ⟨w.heap.size, 2, none⟩ (.slice Af (exQ5.addF ⟨0, 2, 1, 2, 3⟩).fcs.length cf))))) hgl)
  refine loud_op rfl rfl ?_
  go_simp
  refine hK _ _ HC.out ?_
  clear hK K g0 f0 g1 f1 g2 f2 HC HB
  refine treeC_last ?_
  simp only [opsAt, List.filterMap_cons, List.filterMap_nil, List.getElem?_toArray, List.getElem?_cons_succ, List.getElem?_cons_zero]
  refine wpQuiet_nil ?_
  have u0 := S3.out.get 10 0 rfl rfl
  have u1 := S3.out.get 10 1 rfl rfl
  have u2 := S3.out.get 10 2 rfl rfl
  have u3 := S3.out.free 10 0 rfl
  have u4 := S3.out.free 10 1 rfl
  have u5 := S3.out.free 10 2 rfl
  have S4 := Lib.hid (((S3.out.set 10 0 (I 2) rfl).set 10 1 (.slice (some ⟨w.heap.size + 1 + 1 + 1 + 1 + 1 + 1 + 1 + 1 + 1 + 1 + 1, 0, none⟩) 3 3) rfl).set 10 2 (.slice none 0 0) rfl)
  have r0 := S4.out.get 10 0 rfl rfl
  have r1 := S4.out.get 10 1 rfl rfl
  have r2 := S4.out.get 10 2 rfl rfl
  have r3 := S4.out.get 11 0 rfl rfl
  have r4 := S4.out.get 11 1 rfl rfl
  have r5 := S4.out.get 11 2 rfl rfl
  go_wp2_with fail
  refine bodyPost_ret (v := .tuple #[.agg #[I exQ5.wells, .slice Aw exQ5.wds.length cw, .slice Af (exQ5.addF ⟨0, 2, 1, 2, 3⟩).fcs.length cf], .agg #[I 2, (.slice (some ⟨w.heap.size + 1 + 1 + 1 + 1 + 1 + 1 + 1 + 1 + 1 + 1 + 1, 0, none⟩) 3 3), .slice none 0 0]]) (by simp [results, Tryd.results37, go_sem, r0, r1, r2, r3, r4, r5]) rfl ⟨_, _, rfl, ⟨_, _, rfl, ?_, ?_⟩, ⟨_, _, rfl, ?_, Fcts.none _⟩, S4.out.bel⟩
  · exact HOLD.out w.heap.size _ fun x hx => S4.out.ok x (by simp [hx])
  · exact Reads.of_own (S4.out.own 12 rfl)
  · exact LW.three (S4.out.boxReads 0 rfl rfl (by omega)) (LL.two (S4.out.boxReads 7 rfl rfl (by omega)) (S4.out.boxReads 9 rfl rfl (by omega)) (S4.out.boxReads 8 rfl rfl (by omega))) (LL.two (S4.out.boxReads 4 rfl rfl (by omega)) (S4.out.boxReads 6 rfl rfl (by omega)) (S4.out.boxReads 5 rfl rfl (by omega))) (LL.two (S4.out.boxReads 1 rfl rfl (by omega)) (S4.out.boxReads 3 rfl rfl (by omega)) (S4.out.boxReads 2 rfl rfl (by omega)))

end Go.Proofs.YtldcehhhndlhdaaDoor
/- Walks: sunk; sinks. -/
namespace Go.Proofs.YtldcehhhndlhdaaDoor
open Go.RowKit Go.Sort Go.Shelf

theorem lev_ex : levelP exT 2 = (⟨20, 25⟩, 0) := by decide +kernel
theorem left_ex : leftL (exQ5.addF ⟨0, 2, 1, 2, 3⟩) = [0, 2] := by decide +kernel
theorem qval_ex : qValid (exQ5.addF ⟨0, 2, 1, 2, 3⟩) = true := by decide +kernel
set_option maxRecDepth 20000 in
set_option maxHeartbeats 4000000 in
theorem sunk_any (w : World) (hT : TzAt w) :
    Calls Tryd.prog 12 #[] w fun e w' => e = .returned (.bool true) ∧ Below w.heap.size w w' := by
  have HT := Lib.hid hT
  clear hT
  go_enter Tryd.func12, Tryd.ntmps12
  go_wp2_with fail
  refine (example_any _).mono ?_
  rintro e w1 ⟨v1, v2, rfl, ⟨sa, pa, rfl, ha1, ha2⟩, ⟨sb, pb, rfl, hb1, hb2⟩, hb⟩
  obtain ⟨A1, c1, rfl, -, -, -⟩ := id ha1.open_
  obtain ⟨A2, c2, rfl, -, -, -⟩ := id ha2.open_
  obtain ⟨A3, c3, rfl, -, -, -⟩ := id hb1.open_
  obtain ⟨A4, c4, rfl, -, -, -⟩ := id hb2.open_
  have HA1 := Lib.hid ha1
  have HA2 := Lib.hid ha2
  have HB := Lib.hid hb
  clear ha1 ha2 hb1 hb2 hb
  have S := Lib.hid (((St.init w1).alloc [I exT.wells, .slice A1 exT.snd.length c1, .slice A2 exT.slp.length c2] 25).alloc [I exQ.wells, .slice A3 exQ.snd.length c3, .slice A4 exQ.slp.length c4] 25)
  go_wp2_with fail
  refine (example5_any _).mono ?_
  rintro e w2 ⟨v1, v2, rfl, ⟨sa, pa, rfl, ha1, ha2⟩, ⟨sb, pb, rfl, hb1, hb2⟩, hb⟩
  obtain ⟨A5, c5, rfl, -, -, -⟩ := id ha1.open_
  obtain ⟨A6, c6, rfl, -, -, -⟩ := id ha2.open_
  obtain ⟨A7, c7, rfl, -, -, -⟩ := id hb1.open_
  obtain ⟨A8, c8, rfl, -, -, -⟩ := id hb2.open_
  have HQ1 := Lib.hid ha1
  have HQ2 := Lib.hid ha2
  clear ha1 ha2 hb1 hb2
  have T := Lib.hid (((St.init w2).alloc [I (exQ5.addF ⟨0, 2, 1, 2, 3⟩).wells, .slice A5 (exQ5.addF ⟨0, 2, 1, 2, 3⟩).wds.length c5, .slice A6 (exQ5.addF ⟨0, 2, 1, 2, 3⟩).fcs.length c6] 29).alloc [I exQ5.wells, .slice A7 exQ5.wds.length c7, .slice A8 exQ5.fcs.length c8] 29)
  have S := Lib.hid (((S.out.call hb).alloc [I (exQ5.addF ⟨0, 2, 1, 2, 3⟩).wells, .slice A5 (exQ5.addF ⟨0, 2, 1, 2, 3⟩).wds.length c5, .slice A6 (exQ5.addF ⟨0, 2, 1, 2, 3⟩).fcs.length c6] 29).alloc [I exQ5.wells, .slice A7 exQ5.wds.length c7, .slice A8 exQ5.fcs.length c8] 29)
  clear hb
  have k0 := S.out.get 3 0 rfl rfl
  have k1 := S.out.get 3 1 rfl rfl
  have k2 := S.out.get 3 2 rfl rfl
  go_wp2_with fail
  clear k0 k1 k2
  refine (level_any _ exT 2 _ ⟨_, _, rfl, HA1.out.below S.out.bel, HA2.out.below S.out.bel⟩).mono ?_
  rintro e w3 ⟨rfl, hb⟩
  rw [lev_ex]
  have T := Lib.hid ((T.out.call hb).alloc [I 20, I 25] 47)
  have S := Lib.hid ((S.out.call hb).alloc [I 20, I 25] 47)
  clear hb
  have k0 := S.out.get 2 0 rfl rfl
  have k1 := S.out.get 2 1 rfl rfl
  have k2 := S.out.get 2 2 rfl rfl
  go_wp2_with fail
  clear k0 k1 k2
  refine (left_any _ (exQ5.addF ⟨0, 2, 1, 2, 3⟩) _ ⟨_, _, rfl, HQ1.out.below T.out.bel, HQ2.out.below T.out.bel⟩ qval_ex (HT.out.below (bto HB.out S.out.bel))).mono ?_
  rintro e w4 ⟨v, rfl, hi, hb⟩
  rw [left_ex] at hi
  obtain ⟨A9, c9, rfl, -, -, -⟩ := id hi.open_
  have HI := Lib.hid hi
  have S := Lib.hid (S.out.call hb)
  clear hb hi T
  have k0 := S.out.get 0 0 rfl rfl
  have k1 := S.out.get 0 1 rfl rfl
  have T := Lib.hid ((St.init w4).alloc [I 0, I 2] 3)
  have S := Lib.hid (S.out.alloc [I 0, I 2] 3)
  go_wp2_with fail
  refine (sameInts_any _ _ [0, 2] [0, 2] _ (HI.out.below T.out.bel) (T.out.boxReads 0 rfl rfl (by decide)) (by decide) (by decide)).mono ?_
  rintro e w5 ⟨rfl, hb⟩
  have S := Lib.hid (S.out.call hb)
  clear hb k0 k1
  go_wp2_with fail
  go_ret
  exact ⟨rfl, bto HB.out S.out.bel⟩

end Go.Proofs.YtldcehhhndlhdaaDoor
