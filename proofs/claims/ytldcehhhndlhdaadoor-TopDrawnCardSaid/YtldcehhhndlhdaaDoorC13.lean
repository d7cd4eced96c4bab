/- Walks: Idle. -/
import Derived.Test.YtldcehhhndlhdaaDoorC12
import Derived.Test.YtldcehhhndlhdaaDoorC9
namespace Go.Proofs.YtldcehhhndlhdaaDoor
open Go.RowKit Go.Sort

theorem Tr.sub {t : Twn} {is : Nat → Bool} {x : Nat → Int} (h : Tr t x) : Tr (sub t is) x :=
  ⟨h.own, fun s hs => h.snd s ((subL_sublist _ _ _).subset hs), fun s hs => h.slp s ((subL_sublist _ _ _).subset hs)⟩
def butW (n : Nat) (w : Nat) : Bool := w != n
/-- The words, of the first k, that say nothing more. -/
def idleTo (t : Twn) (k : Nat) : List Int := ((List.range k).filter fun n => sameL (closeM (baseM t)) (closeM (baseM (sub t (butW n)))) (List.range t.wells.toNat)).map fun (n : Nat) => (n : Int)
def idleP (t : Twn) : List Int × Int := if openE t true = 0 then (idleTo t (t.snd.length + t.slp.length), 0) else ([], openE t true)
theorem idleTo_snoc (t : Twn) (k : Nat) : idleTo t (k + 1) = if sameL (closeM (baseM t)) (closeM (baseM (sub t (butW k)))) (List.range t.wells.toNat) = true then idleTo t k ++ [(k : Int)] else idleTo t k := by
  unfold idleTo
  rw [List.range_succ, List.filter_append]
  cases h : sameL (closeM (baseM t)) (closeM (baseM (sub t (butW k)))) (List.range t.wells.toNat) <;> simp [h]
theorem idleTo_len (t : Twn) (k : Nat) : (idleTo t k).length ≤ k := by
  unfold idleTo
  rw [List.length_map]
  exact Nat.le_trans (List.length_filter_le _ _) (by simp)
/-- The closed bounds of fewer words are small. -/
theorem sub_okm {t : Twn} (h : openE t true = 0) (is : Nat → Bool) : Okm (closeM (baseM (sub t is))) := by
  obtain ⟨hv, -, hd⟩ := openE_zero h
  have hv2 := hv.sub is
  obtain ⟨x, hx⟩ := (says_ok hv (baseM_says hv)).1.1 hd
  exact (says_okm hv2 (baseM_says hv2) ((says_ok hv2 (baseM_says hv2)).1.2 ⟨x, hx.sub⟩)).1
end Go.Proofs.YtldcehhhndlhdaaDoor
/- Walks: slices.Index, Contains, Clone at []int; the function value of Clash. -/
namespace Go.Proofs.YtldcehhhndlhdaaDoor
open Go.RowKit Go.Sort

/-- A place of a number in a list, or -1. -/
def RetIdx (n : Int) (xs : List Int) (w : World) (e : Ending) (w' : World) : Prop := ∃ r : Int, e = .returned (I r) ∧ (0 ≤ r ↔ n ∈ xs) ∧ Below w.heap.size w w'

set_option maxRecDepth 20000 in
set_option maxHeartbeats 1000000 in
theorem cloneI_any (v : Value) (ps : List Int) (w : World) (hv : Ints w v ps) (hlen : ps.length ≤ 1000) :
    Calls Tryd.prog 98 #[v] w fun e w' => ∃ v', e = .returned v' ∧ w'.ownsRow w.heap.size 3 1 v' ps.length (ps.map I) ∧ Below w.heap.size w w' := by
  obtain ⟨i0, hi, hz0, hz1, hz2⟩ := info_parts Tryd.info3
  have h02 : 0 < 1 := by omega
  have h63 : 0 + ps.length ≤ maxLen := by simp only [maxLen]; omega
  have hby : (0 + ps.length) * 8 ≤ 140737488355328 := by omega
  have HV := Lib.hid (show Reads w 1 v ps.length (ps.map I) from hv)
  have hm0 : (0 : Nat) ≤ maxLen := by omega
  have hown := World.ownsRow_made (e := 3) (size := 1) w #[] 0 (Nat.le_refl w.heap.size) hm0 rfl
  have hb0 : Below w.heap.size w (w.alloc (.cells #[] 3)) := (Below.refl _ _).alloc (Nat.le_refl _) _
  have hs0 := hb0.size
  obtain ⟨_, A, c, rfl, hmc, hc, hcell⟩ := hv
  rcases A with _ | ad
  · have hp : ps = [] := by
      rcases Nat.eq_zero_or_pos ps.length with h0 | h0
      · exact List.eq_nil_of_length_eq_zero h0
      · obtain ⟨b, o, h, _⟩ := hcell h0
        cases h
    subst hp
    clear hcell
    have hq := fun w => run_eql_slice_nil (P := Tryd.prog) w 53 3 none 0 c Tryd.underlying53
    go_enter Tryd.func98, Tryd.ntmps98
    go_wp2_with fail
    go_ret
    exact ⟨_, rfl, World.ownsRow_nil _ _ _ _, Below.refl _ _⟩
  · clear hcell
    have hq := fun w => run_eql_slice_nil (P := Tryd.prog) w 53 3 (some ad) ps.length c Tryd.underlying53
    go_enter Tryd.func98, Tryd.ntmps98
    go_wp2_with (at_builtin; refine wpList_append_src _ rfl _ _ 53 rfl w.heap.size 3 i0 (.int .i64 0) 1 8 Tryd.underlying53 hi hz0 hz1 hz2 rfl h02 _ _ _ rfl hown _ _ _ rfl (Reads.below HV.out hb0) (ints_one _) h63 hby hs0 ?_; intro v' w4 hown' hgrow _)
    go_ret
    rw [Nat.zero_add, List.nil_append] at hown'
    exact ⟨_, rfl, hown', hb0.grown hgrow hs0 (fun q hq => (hown.lt q hq).1)⟩

def hasW (l : List Nat) (w : Nat) : Bool := decide (w ∈ l)
/-- Numbers of words, as a list of integers. -/
def ofN (l : List Nat) : List Int := l.map fun (x : Nat) => (x : Int)
theorem mem_ofN {l : List Nat} {n : Nat} : (n : Int) ∈ ofN l ↔ n ∈ l := by
  unfold ofN
  rw [List.mem_map]
  exact ⟨fun ⟨a, h, e⟩ => (show a = n by omega) ▸ h, fun h => ⟨n, h, rfl⟩⟩
end Go.Proofs.YtldcehhhndlhdaaDoor
/- Walks: the reference's Copy, Many; Huge, isKnown, inside. -/
namespace Go.Proofs.YtldcehhhndlhdaaDoor
open Go.RowKit Go.Sort

theorem snds_one (ss : List Snd) : ∀ u ∈ sndCells ss, u.oneCell' = true := fun u hu => by
  obtain ⟨p, _, hu⟩ := List.mem_flatMap.1 hu
  simp at hu
  rcases hu with rfl | rfl | rfl <;> rfl
theorem slps_one (ss : List Slp) : ∀ u ∈ slpCells ss, u.oneCell' = true := fun u hu => by
  obtain ⟨p, _, hu⟩ := List.mem_flatMap.1 hu
  simp at hu
  rcases hu with rfl | rfl | rfl | rfl <;> rfl
/-- A town in memory that the call has made. -/
def OwnTwn (w : World) (base : Nat) (v : Value) (t : Twn) : Prop := ∃ sv pv, v = .agg #[I t.wells, sv, pv] ∧ w.ownsRow base 31 3 sv t.snd.length (sndCells t.snd) ∧ w.ownsRow base 77 4 pv t.slp.length (slpCells t.slp)
theorem OwnTwn.twn {w : World} {base : Nat} {v : Value} {t : Twn} (h : OwnTwn w base v t) : TwnAt w v t := by
  obtain ⟨sv, pv, rfl, h1, h2⟩ := h
  exact ⟨sv, pv, rfl, Reads.of_own h1, Reads.of_own h2⟩
theorem OwnTwn.below {w w' : World} {base : Nat} {v : Value} {t : Twn} (h : OwnTwn w base v t) (hb : Below w.heap.size w w') : OwnTwn w' base v t := by
  obtain ⟨sv, pv, rfl, h1, h2⟩ := h
  exact ⟨sv, pv, rfl, own_below h1 hb, own_below h2 hb⟩
theorem own_ne {W : World} {B B' e e' s s' n n' : Nat} {v v' : Value} {xs xs' : List Value} (h : W.ownsRow B e s v n xs) (h' : W.ownsRow B' e' s' v' n' xs') (hne : e ≠ e') {g : Nat} (hg : v.ownBlock = some g) : v'.ownBlock ≠ some g := by
  intro hg'
  rcases h.2 with ⟨rfl, _⟩ | ⟨g1, cap, cur, rfl, _, hh, _⟩
  · cases hg
  · rcases h'.2 with ⟨rfl, _⟩ | ⟨g2, cap', cur', rfl, _, hh', _⟩
    · cases hg'
    · have e1 : g1 = g := by simpa [Value.ownBlock] using hg
      have e2 : g2 = g := by simpa [Value.ownBlock] using hg'
      rw [e1] at hh
      rw [e2] at hh'
      rw [hh] at hh'
      injection hh' with hh'
      injection hh' with _ ht
      exact hne ht
/-- Two rows in new memory, of two kinds. -/
theorem St.take2 {w0 w w' : World} {n : Nat} {L : List Item} (h : St w0 w n L) (hb : Below w.heap.size w w') {e e' s s' m m' : Nat} {v v' : Value} {xs xs' : List Value} (ho : w'.ownsRow w.heap.size e s v m xs) (ho' : w'.ownsRow w.heap.size e' s' v' m' xs') (hne : e ≠ e') : St w0 w' w'.heap.size (.own e s v m xs :: .own e' s' v' m' xs' :: L) := by
  have h1 := h.take hb ho'
  refine ⟨rfl, h1.bel, fun x hx => ?_, ?_⟩
  · rcases List.mem_cons.1 hx with hx | hx
    · rw [hx]; exact own_base' ho h.bel.size
    · exact h1.ok x hx
  · rw [List.filterMap_cons]
    split
    · exact h1.apart
    · rename_i b hb'
      refine List.nodup_cons.2 ⟨fun hm => ?_, h1.apart⟩
      rw [List.filterMap_cons] at hm
      split at hm
      · have h3 := (ho.lt b hb').1
        have h4 := (h.lt_of hm).2
        have := h.size
        omega
      · rename_i c hc
        rcases List.mem_cons.1 hm with rfl | hm
        · exact own_ne ho ho' hne hb' hc
        · have h3 := (ho.lt b hb').1
          have h4 := (h.lt_of hm).2
          have := h.size
          omega

set_option maxRecDepth 20000 in
set_option maxHeartbeats 4000000 in
theorem copy_any (v : Value) (t : Twn) (w : World) (hv : TwnAt w v t) (hlen : t.snd.length ≤ 1000) (hlen' : t.slp.length ≤ 1000) :
    Calls Tryd.prog 45 #[v] w fun e w' => ∃ v', e = .returned v' ∧ OwnTwn w' w.heap.size v' t ∧ Below w.heap.size w w' := by
  obtain ⟨sv, pv, rfl, hs, hp⟩ := hv
  have HSN := Lib.hid hs
  have HSP := Lib.hid hp
  obtain ⟨A1, c1, rfl, -, -, -⟩ := id hs.open_
  obtain ⟨A2, c2, rfl, -, -, -⟩ := id hp.open_
  clear hs hp
  have S := Lib.hid (show St w (w.alloc (.cells #[I t.wells, .slice A1 t.snd.length c1, .slice A2 t.slp.length c2] 25)) (w.heap.size + 1) [.box w.heap.size [I t.wells, .slice A1 t.snd.length c1, .slice A2 t.slp.length c2]] from (St.init w).alloc [I t.wells, .slice A1 t.snd.length c1, .slice A2 t.slp.length c2] 25)
  obtain ⟨i0, hi, hz0, hz1, hz2⟩ := info_parts (P := Tryd.prog) (e := 31) (z := .agg #[.int .i64 0, .int .i64 0, .int .i64 0]) (size := 3) (bytes := 24) (by kernel_rfl)
  obtain ⟨j0, ki, kz0, kz1, kz2⟩ := info_parts (P := Tryd.prog) (e := 77) (z := .agg #[.int .i64 0, .int .i64 0, .int .i64 0, .int .i64 0]) (size := 4) (bytes := 32) (by kernel_rfl)
  have S := Lib.hid (S.out.alloc [I 0, .slice none 0 0, .slice none 0 0] 25)
  go_enter Tryd.func45, Tryd.ntmps45
  go_wp2_with fail
  refine wp_region_treeB (.node [0, 1, 3, 4, 7, 8] [2, 6] (fun l => if l = 2 then .node [] [5, 6] (fun l => if l = 5 then .node [] [6] (fun _ => .node [] [9] (fun _ => .last [10] [11])) else .node [] [5] (fun _ => .node [] [9] (fun _ => .last [10] [11]))) else .node [] [2] (fun _ => .node [] [5] (fun _ => .node [] [9] (fun _ => .last [10] [11]))))) 11 (by kernel_rfl) (by kernel_rfl) ?_
  intro KQ hKQ w1 hb
  have S := Lib.hid (S.out.call hb)
  clear hb
  have k0 := cell_regrown (S.out.get 1 0 rfl rfl)
  have k1 := cell_regrown (S.out.get 1 1 rfl rfl)
  have k2 := cell_regrown (S.out.get 1 2 rfl rfl)
  have HB := Lib.hid (Below.refl w1.heap.size w1)
  refine treeB_node ?_
  simp only [opsAt, List.filterMap_cons, List.filterMap_nil, List.getElem?_toArray, List.getElem?_cons_succ, List.getElem?_cons_zero]
  repeat (first | go_big_quiet_step (fail) | quiet_step (fail))
  refine wpQuiet_nil ?_
  refine all_two ?_ ?_
  · have le2 := Lib.hid HB.out.size
    intro K hK
    refine loud_op rfl rfl ?_
    go_simp
    have hb := (Below.refl w1.heap.size w1).alloc (Nat.le_refl _) (.cells #[] 31)
    have hg := heap_alloc_new w1 (.cells #[] 31)
    obtain ⟨w2, hwd⟩ : ∃ x, w1.alloc (.cells #[] 31) = x := ⟨_, rfl⟩
    rw [hwd] at hb hg ⊢
    clear hwd
    have HB := Lib.hid (bto HB.out hb)
    have G2 := Lib.hid hg
    refine hK _ _ HB.out ?_
    clear hK K hb hg
    refine treeB_node ?_
    simp only [opsAt, List.filterMap_nil]
    refine wpQuiet_nil ?_
    refine all_two ?_ ?_
    · intro K hK
      refine loud_op rfl rfl ?_
      have hrd : Reads w2 3 _ t.snd.length (sndCells t.snd) := (HSN.out.below (bto S.out.bel HB.out))
      refine wp_append_fresh _ (.tmp 5) (.tmp 7) 22 rfl w1.heap.size 31 i0 (.agg #[.int .i64 0, .int .i64 0, .int .i64 0]) 3 24 Tryd.underlying22 hi hz0 hz1 hz2 rfl (by omega) w1.heap.size rfl G2.out le2.out _ t.snd.length (sndCells t.snd) rfl hrd (snds_one t.snd) (by simp only [maxLen]; omega) (by omega) HB.out.size ?_
      intro v1 w3 hown hb
      have HB := Lib.hid (bto HB.out hb)
      have O1 := Lib.hid hown
      refine hK _ _ HB.out ?_
      clear hK K hb hown hrd
      refine treeB_node ?_
      simp only [opsAt, List.filterMap_nil]
      refine wpQuiet_nil ?_
      refine all_one ?_
      have le6 := Lib.hid HB.out.size
      intro K hK
      refine loud_op rfl rfl ?_
      go_simp
      have hb := (Below.refl w3.heap.size w3).alloc (Nat.le_refl _) (.cells #[] 77)
      have hg := heap_alloc_new w3 (.cells #[] 77)
      obtain ⟨w4, hwd⟩ : ∃ x, w3.alloc (.cells #[] 77) = x := ⟨_, rfl⟩
      rw [hwd] at hb hg ⊢
      clear hwd
      have O1 := Lib.hid (own_below O1.out hb)
      have HB := Lib.hid (bto HB.out hb)
      have G6 := Lib.hid hg
      refine hK _ _ HB.out ?_
      clear hK K hb hg
      refine treeB_node ?_
      simp only [opsAt, List.filterMap_nil]
      refine wpQuiet_nil ?_
      refine all_one ?_
      intro K hK
      refine loud_op rfl rfl ?_
      have hrd : Reads w4 4 _ t.slp.length (slpCells t.slp) := (HSP.out.below (bto S.out.bel HB.out))
      refine wp_append_fresh _ (.tmp 9) (.tmp 11) 23 rfl w1.heap.size 77 j0 (.agg #[.int .i64 0, .int .i64 0, .int .i64 0, .int .i64 0]) 4 32 Tryd.underlying23 ki kz0 kz1 kz2 rfl (by omega) w3.heap.size rfl G6.out le6.out _ t.slp.length (slpCells t.slp) rfl hrd (slps_one t.slp) (by simp only [maxLen]; omega) (by omega) HB.out.size ?_
      intro v2 w5 hown hb
      have O1 := Lib.hid (own_below O1.out hb)
      have HB := Lib.hid (bto HB.out hb)
      have O2 := Lib.hid hown
      refine hK _ _ HB.out ?_
      clear hK K hb hown hrd
      obtain ⟨Av1, cv1, rfl⟩ := own_shape O1.out
      obtain ⟨Av2, cv2, rfl⟩ := own_shape O2.out
      refine treeB_last ?_
      simp only [opsAt, List.filterMap_cons, List.filterMap_nil, List.getElem?_toArray, List.getElem?_cons_succ, List.getElem?_cons_zero]
      repeat (first | go_big_quiet_step (fail) | quiet_step (fail))
      refine wpQuiet_nil ?_
      have S := Lib.hid (S.out.take2 HB.out O1.out O2.out (by decide))
      have S2 := ((S.out.set 2 0 (I t.wells) rfl).set 2 1 (.slice Av1 t.snd.length cv1) rfl).set 2 2 (.slice Av2 t.slp.length cv2) rfl
      have u0 := S.out.get 2 0 rfl rfl
      have u1 := S.out.get 2 1 rfl rfl
      have u2 := S.out.get 2 2 rfl rfl
      have u3 := S.out.free 2 0 rfl
      have u4 := S.out.free 2 1 rfl
      have u5 := S.out.free 2 2 rfl
      have r0 := S2.get 2 0 rfl rfl
      have r1 := S2.get 2 1 rfl rfl
      have r2 := S2.get 2 2 rfl rfl
      clear k0 k1 k2
      go_wp2_with fail
      refine bodyPost_ret (v := .agg #[I t.wells, .slice Av1 t.snd.length cv1, .slice Av2 t.slp.length cv2]) (by simp [results, Tryd.results45, go_sem, r0, r1, r2]) rfl ⟨_, rfl, ⟨_, _, rfl, S2.own 0 rfl, S2.own 1 rfl⟩, S2.bel⟩
    · have le6 := Lib.hid HB.out.size
      intro K hK
      refine loud_op rfl rfl ?_
      go_simp
      have hb := (Below.refl w2.heap.size w2).alloc (Nat.le_refl _) (.cells #[] 77)
      have hg := heap_alloc_new w2 (.cells #[] 77)
      have ho := (heap_alloc_old w2 (.cells #[] 77) (r := w1.heap.size) (lt_of_block G2.out)).trans G2.out
      obtain ⟨w3, hwd⟩ : ∃ x, w2.alloc (.cells #[] 77) = x := ⟨_, rfl⟩
      rw [hwd] at hb hg ho ⊢
      clear hwd
      have HB := Lib.hid (bto HB.out hb)
      have G6 := Lib.hid hg
      have G2 := Lib.hid ho
      clear ho
      refine hK _ _ HB.out ?_
      clear hK K hb hg
      refine treeB_node ?_
      simp only [opsAt, List.filterMap_nil]
      refine wpQuiet_nil ?_
      refine all_one ?_
      intro K hK
      refine loud_op rfl rfl ?_
      have hrd : Reads w3 3 _ t.snd.length (sndCells t.snd) := (HSN.out.below (bto S.out.bel HB.out))
      refine wp_append_fresh _ (.tmp 5) (.tmp 7) 22 rfl w1.heap.size 31 i0 (.agg #[.int .i64 0, .int .i64 0, .int .i64 0]) 3 24 Tryd.underlying22 hi hz0 hz1 hz2 rfl (by omega) w1.heap.size rfl G2.out le2.out _ t.snd.length (sndCells t.snd) rfl hrd (snds_one t.snd) (by simp only [maxLen]; omega) (by omega) HB.out.size ?_
      intro v1 w4 hown hb
      have G6 := Lib.hid ((hb.block _ (lt_of_block G6.out)).trans G6.out)
      have HB := Lib.hid (bto HB.out hb)
      have O1 := Lib.hid hown
      refine hK _ _ HB.out ?_
      clear hK K hb hown hrd
      refine treeB_node ?_
      simp only [opsAt, List.filterMap_nil]
      refine wpQuiet_nil ?_
      refine all_one ?_
      intro K hK
      refine loud_op rfl rfl ?_
      have hrd : Reads w4 4 _ t.slp.length (slpCells t.slp) := (HSP.out.below (bto S.out.bel HB.out))
      refine wp_append_fresh _ (.tmp 9) (.tmp 11) 23 rfl w1.heap.size 77 j0 (.agg #[.int .i64 0, .int .i64 0, .int .i64 0, .int .i64 0]) 4 32 Tryd.underlying23 ki kz0 kz1 kz2 rfl (by omega) w2.heap.size rfl G6.out le6.out _ t.slp.length (slpCells t.slp) rfl hrd (slps_one t.slp) (by simp only [maxLen]; omega) (by omega) HB.out.size ?_
      intro v2 w5 hown hb
      have O1 := Lib.hid (own_below O1.out hb)
      have HB := Lib.hid (bto HB.out hb)
      have O2 := Lib.hid hown
      refine hK _ _ HB.out ?_
      clear hK K hb hown hrd
      obtain ⟨Av1, cv1, rfl⟩ := own_shape O1.out
      obtain ⟨Av2, cv2, rfl⟩ := own_shape O2.out
      refine treeB_last ?_
      simp only [opsAt, List.filterMap_cons, List.filterMap_nil, List.getElem?_toArray, List.getElem?_cons_succ, List.getElem?_cons_zero]
      repeat (first | go_big_quiet_step (fail) | quiet_step (fail))
      refine wpQuiet_nil ?_
      have S := Lib.hid (S.out.take2 HB.out O1.out O2.out (by decide))
      have S2 := ((S.out.set 2 0 (I t.wells) rfl).set 2 1 (.slice Av1 t.snd.length cv1) rfl).set 2 2 (.slice Av2 t.slp.length cv2) rfl
      have u0 := S.out.get 2 0 rfl rfl
      have u1 := S.out.get 2 1 rfl rfl
      have u2 := S.out.get 2 2 rfl rfl
      have u3 := S.out.free 2 0 rfl
      have u4 := S.out.free 2 1 rfl
      have u5 := S.out.free 2 2 rfl
      have r0 := S2.get 2 0 rfl rfl
      have r1 := S2.get 2 1 rfl rfl
      have r2 := S2.get 2 2 rfl rfl
      clear k0 k1 k2
      go_wp2_with fail
      refine bodyPost_ret (v := .agg #[I t.wells, .slice Av1 t.snd.length cv1, .slice Av2 t.slp.length cv2]) (by simp [results, Tryd.results45, go_sem, r0, r1, r2]) rfl ⟨_, rfl, ⟨_, _, rfl, S2.own 0 rfl, S2.own 1 rfl⟩, S2.bel⟩
  · have le6 := Lib.hid HB.out.size
    intro K hK
    refine loud_op rfl rfl ?_
    go_simp
    have hb := (Below.refl w1.heap.size w1).alloc (Nat.le_refl _) (.cells #[] 77)
    have hg := heap_alloc_new w1 (.cells #[] 77)
    obtain ⟨w2, hwd⟩ : ∃ x, w1.alloc (.cells #[] 77) = x := ⟨_, rfl⟩
    rw [hwd] at hb hg ⊢
    clear hwd
    have HB := Lib.hid (bto HB.out hb)
    have G6 := Lib.hid hg
    refine hK _ _ HB.out ?_
    clear hK K hb hg
    refine treeB_node ?_
    simp only [opsAt, List.filterMap_nil]
    refine wpQuiet_nil ?_
    refine all_one ?_
    have le2 := Lib.hid HB.out.size
    intro K hK
    refine loud_op rfl rfl ?_
    go_simp
    have hb := (Below.refl w2.heap.size w2).alloc (Nat.le_refl _) (.cells #[] 31)
    have hg := heap_alloc_new w2 (.cells #[] 31)
    have ho := (heap_alloc_old w2 (.cells #[] 31) (r := w1.heap.size) (lt_of_block G6.out)).trans G6.out
    obtain ⟨w3, hwd⟩ : ∃ x, w2.alloc (.cells #[] 31) = x := ⟨_, rfl⟩
    rw [hwd] at hb hg ho ⊢
    clear hwd
    have HB := Lib.hid (bto HB.out hb)
    have G2 := Lib.hid hg
    have G6 := Lib.hid ho
    clear ho
    refine hK _ _ HB.out ?_
    clear hK K hb hg
    refine treeB_node ?_
    simp only [opsAt, List.filterMap_nil]
    refine wpQuiet_nil ?_
    refine all_one ?_
    intro K hK
    refine loud_op rfl rfl ?_
    have hrd : Reads w3 3 _ t.snd.length (sndCells t.snd) := (HSN.out.below (bto S.out.bel HB.out))
    refine wp_append_fresh _ (.tmp 5) (.tmp 7) 22 rfl w1.heap.size 31 i0 (.agg #[.int .i64 0, .int .i64 0, .int .i64 0]) 3 24 Tryd.underlying22 hi hz0 hz1 hz2 rfl (by omega) w2.heap.size rfl G2.out le2.out _ t.snd.length (sndCells t.snd) rfl hrd (snds_one t.snd) (by simp only [maxLen]; omega) (by omega) HB.out.size ?_
    intro v1 w4 hown hb
    have G6 := Lib.hid ((hb.block _ (lt_of_block G6.out)).trans G6.out)
    have HB := Lib.hid (bto HB.out hb)
    have O1 := Lib.hid hown
    refine hK _ _ HB.out ?_
    clear hK K hb hown hrd
    refine treeB_node ?_
    simp only [opsAt, List.filterMap_nil]
    refine wpQuiet_nil ?_
    refine all_one ?_
    intro K hK
    refine loud_op rfl rfl ?_
    have hrd : Reads w4 4 _ t.slp.length (slpCells t.slp) := (HSP.out.below (bto S.out.bel HB.out))
    refine wp_append_fresh _ (.tmp 9) (.tmp 11) 23 rfl w1.heap.size 77 j0 (.agg #[.int .i64 0, .int .i64 0, .int .i64 0, .int .i64 0]) 4 32 Tryd.underlying23 ki kz0 kz1 kz2 rfl (by omega) w1.heap.size rfl G6.out le6.out _ t.slp.length (slpCells t.slp) rfl hrd (slps_one t.slp) (by simp only [maxLen]; omega) (by omega) HB.out.size ?_
    intro v2 w5 hown hb
    have O1 := Lib.hid (own_below O1.out hb)
    have HB := Lib.hid (bto HB.out hb)
    have O2 := Lib.hid hown
    refine hK _ _ HB.out ?_
    clear hK K hb hown hrd
    obtain ⟨Av1, cv1, rfl⟩ := own_shape O1.out
    obtain ⟨Av2, cv2, rfl⟩ := own_shape O2.out
    refine treeB_last ?_
    simp only [opsAt, List.filterMap_cons, List.filterMap_nil, List.getElem?_toArray, List.getElem?_cons_succ, List.getElem?_cons_zero]
    repeat (first | go_big_quiet_step (fail) | quiet_step (fail))
    refine wpQuiet_nil ?_
    have S := Lib.hid (S.out.take2 HB.out O1.out O2.out (by decide))
    have S2 := ((S.out.set 2 0 (I t.wells) rfl).set 2 1 (.slice Av1 t.snd.length cv1) rfl).set 2 2 (.slice Av2 t.slp.length cv2) rfl
    have u0 := S.out.get 2 0 rfl rfl
    have u1 := S.out.get 2 1 rfl rfl
    have u2 := S.out.get 2 2 rfl rfl
    have u3 := S.out.free 2 0 rfl
    have u4 := S.out.free 2 1 rfl
    have u5 := S.out.free 2 2 rfl
    have r0 := S2.get 2 0 rfl rfl
    have r1 := S2.get 2 1 rfl rfl
    have r2 := S2.get 2 2 rfl rfl
    clear k0 k1 k2
    go_wp2_with fail
    refine bodyPost_ret (v := .agg #[I t.wells, .slice Av1 t.snd.length cv1, .slice Av2 t.slp.length cv2]) (by simp [results, Tryd.results45, go_sem, r0, r1, r2]) rfl ⟨_, rfl, ⟨_, _, rfl, S2.own 0 rfl, S2.own 1 rfl⟩, S2.bel⟩

set_option maxRecDepth 20000 in
set_option maxHeartbeats 1000000 in
theorem many_any (v : Value) (t : Twn) (w : World) (hv : TwnAt w v t) (hl1 : t.snd.length ≤ 1000) (hl2 : t.slp.length ≤ 1000) :
    Calls Tryd.prog 32 #[v] w fun e w' => e = .returned (I ((t.snd.length + t.slp.length : Nat) : Int)) ∧ Below w.heap.size w w' := by
  obtain ⟨sv, pv, rfl, hs, hp⟩ := hv
  have HSN := Lib.hid hs
  have HSP := Lib.hid hp
  obtain ⟨A1, c1, rfl, -, -, -⟩ := id hs.open_
  obtain ⟨A2, c2, rfl, -, -, -⟩ := id hp.open_
  clear hs hp
  have S := Lib.hid (show St w (w.alloc (.cells #[I t.wells, .slice A1 t.snd.length c1, .slice A2 t.slp.length c2] 25)) (w.heap.size + 1) [.box w.heap.size [I t.wells, .slice A1 t.snd.length c1, .slice A2 t.slp.length c2]] from (St.init w).alloc [I t.wells, .slice A1 t.snd.length c1, .slice A2 t.slp.length c2] 25)
  have q0 := S.out.get 0 0 rfl rfl
  have q1 := S.out.get 0 1 rfl rfl
  have q2 := S.out.get 0 2 rfl rfl
  go_enter Tryd.func32, Tryd.ntmps32
  go_wp2_with fail
  go_ret
  exact ⟨rfl, S.out.bel⟩

def hugeB (t : Twn) : Bool := decide ((40 : Int) < (t.snd.length : Int)) || decide ((40 : Int) < (t.slp.length : Int))
set_option maxRecDepth 20000 in
set_option maxHeartbeats 2000000 in
theorem huge_any (v : Value) (t : Twn) (w : World) (hv : TwnAt w v t) :
    Calls Tryd.prog 31 #[v] w fun e w' => e = .returned (.bool (hugeB t)) ∧ Below w.heap.size w w' := by
  obtain ⟨sv, pv, rfl, hs, hp⟩ := hv
  have HSN := Lib.hid hs
  have HSP := Lib.hid hp
  obtain ⟨A1, c1, rfl, -, -, -⟩ := id hs.open_
  obtain ⟨A2, c2, rfl, -, -, -⟩ := id hp.open_
  clear hs hp
  have S := Lib.hid (show St w (w.alloc (.cells #[I t.wells, .slice A1 t.snd.length c1, .slice A2 t.slp.length c2] 25)) (w.heap.size + 1) [.box w.heap.size [I t.wells, .slice A1 t.snd.length c1, .slice A2 t.slp.length c2]] from (St.init w).alloc [I t.wells, .slice A1 t.snd.length c1, .slice A2 t.slp.length c2] 25)
  have q0 := S.out.get 0 0 rfl rfl
  have q1 := S.out.get 0 1 rfl rfl
  have q2 := S.out.get 0 2 rfl rfl
  by_cases g1 : 40 < t.snd.length
  · have HE := Lib.hid (show hugeB t = true by simp [hugeB]; omega)
    go_enter Tryd.func31, Tryd.ntmps31
    go_wp2_with fail
    all_goals
      go_ret
      refine ⟨?_, S.out.bel⟩
      rw [HE.out]
      first | rfl | (simp; done) | (simp; omega)
  · by_cases g2 : 40 < t.slp.length
    · have HE := Lib.hid (show hugeB t = true by simp [hugeB]; omega)
      go_enter Tryd.func31, Tryd.ntmps31
      go_wp2_with fail
      all_goals
        go_ret
        refine ⟨?_, S.out.bel⟩
        rw [HE.out]
        first | rfl | (simp; done) | (simp; omega)
    · have HE := Lib.hid (show hugeB t = false by simp [hugeB]; omega)
      go_enter Tryd.func31, Tryd.ntmps31
      go_wp2_with fail
      all_goals
        go_ret
        refine ⟨?_, S.out.bel⟩
        rw [HE.out]
        first | rfl | (simp; done) | (simp; omega)

def isKnownB (n : Int) : Bool := n == 0 || n == 3
def insideS (a b : Sp) : Bool := decide (b.low ≤ a.low) && decide (a.low ≤ a.high) && decide (a.high ≤ b.high)
set_option maxHeartbeats 1000000 in
theorem sameInts_any (va vb : Value) (xs ys : List Int) (w : World) (ha : Ints w va xs) (hb : Ints w vb ys) (hlen : xs.length ≤ 1000) (hlen' : ys.length ≤ 1000) :
    Calls Tryd.prog 39 #[va, vb] w fun e w' => e = .returned (.bool (decide (xs = ys))) ∧ Below w.heap.size w w' := by
  obtain ⟨A, c, rfl, hac, hcm, ha⟩ := ha.open_
  obtain ⟨A', c', rfl, hac', hcm', ha'⟩ := hb.open_
  have HA := Lib.hid ha
  have HA' := Lib.hid ha'
  clear ha ha' hb
  by_cases hl : xs.length = ys.length
  · have hl1 : ((xs.length : Int) != (ys.length : Int)) = false := by simp; omega
    have HL := Lib.hid hl
    clear hl
    go_enter Tryd.func39, Tryd.ntmps39
    go_wp2_with fail
    go_loopw [5] (fun i wr => ∃ k : Nat, k ≤ xs.length ∧ i = I k ∧ Hid (xs.take k = ys.take k) ∧ Hid (Below w.heap.size w wr)) (fun i _ => xs.length - (intOf i).toNat)
    case atStart => exact ⟨0, by omega, rfl, Lib.hid (by simp), Lib.hid (Below.refl _ _)⟩
    case round =>
      obtain ⟨k, hk, rfl, hj, hbw⟩ := hrel
      by_cases hlt : k < xs.length
      · have hlt' : k < ys.length := by have := HL.out; omega
        obtain ⟨b, o, rfl, hbl, hcell⟩ := HA.out (by omega)
        obtain ⟨b', o', rfl, hbl', hcell'⟩ := HA'.out (by omega)
        have y0 := cell_regrown (keep_cell hbw.out (hcell k hlt))
        have y1 := cell_regrown (keep_cell hbw.out (hcell' k hlt'))
        have q1 : (k : Int) < (xs.length : Int) := by omega
        have q2 : (k : Int) < (ys.length : Int) := by omega
        clear hcell hcell'
        by_cases he : xs[k] = ys[k]
        · have hq : (xs[k] != ys[k]) = false := by simp [he]
          have HE := Lib.hid (show xs.take (k + 1) = ys.take (k + 1) by rw [List.take_succ_eq_append_getElem hlt, List.take_succ_eq_append_getElem hlt', hj.out, he])
          clear he
          go_wp2_with fail
          refine wp_region_ext (by kernel_rfl) (by kernel_rfl) ?_
          repeat (first | go_big_quiet_step (fail) | quiet_step (fail))
          refine wpQuiet_nil ?_
          clear y0 y1
          intro w1 hb1
          go_wp2_with fail
          go_roundw
          case rel => exact ⟨k + 1, by omega, by go_num, HE, Lib.hid (bto hbw.out hb1)⟩
          case measure => first | (simp [intOf]; done) | (simp [intOf]; omega)
        · have hq : (xs[k] != ys[k]) = true := by simp [he]
          have HE := Lib.hid (show ¬ xs = ys from fun h => he (by subst h; rfl))
          clear he
          go_wp2_with fail
          refine wp_region_ext (by kernel_rfl) (by kernel_rfl) ?_
          repeat (first | go_big_quiet_step (fail) | quiet_step (fail))
          refine wpQuiet_nil ?_
          clear y0 y1
          intro w1 hb1
          go_wp2_with fail
          go_ret
          exact ⟨by rw [decide_eq_false HE.out]; rfl, bto hbw.out hb1⟩
      · obtain rfl : k = xs.length := by omega
        have HE := Lib.hid (show xs = ys by
          have h1 := hj.out
          have h2 := HL.out
          rw [List.take_length, h2, List.take_length] at h1
          exact h1)
        go_wp2_with fail
        go_ret
        exact ⟨by rw [decide_eq_true HE.out]; rfl, hbw.out⟩
  · have hl1 : ((xs.length : Int) != (ys.length : Int)) = true := by simp; omega
    have HE := Lib.hid (show ¬ xs = ys from fun h => hl (by rw [h]))
    clear hl
    go_enter Tryd.func39, Tryd.ntmps39
    go_wp2_with fail
    go_ret
    exact ⟨by rw [decide_eq_false HE.out]; rfl, Below.refl _ _⟩
end Go.Proofs.YtldcehhhndlhdaaDoor
/- Walks: the reference's Sounded; sounded, Example. -/
namespace Go.Proofs.YtldcehhhndlhdaaDoor
open Go.RowKit Go.Sort

/-- A box reads as a slice of all its cells. -/
theorem St.boxReads {w0 w : World} {n : Nat} {L : List Item} (h : St w0 w n L) (i : Nat) {b : Nat} {cs : List Value} (hi : L[i]? = some (.box b cs)) {size m : Nat} (hm : cs.length = m * size) (hl : m ≤ 1000) : Reads w size (.slice (some ⟨b, 0, none⟩) m m) m cs := by
  refine ⟨hm, _, _, rfl, Nat.le_refl _, by omega, fun _ => ⟨b, 0, rfl, fun j u hu => ?_⟩⟩
  rw [Nat.zero_add]
  exact h.get i j hi hu

theorem sndCells_snoc (l : List Snd) (s : Snd) : sndCells (l ++ [s]) = sndCells l ++ [I s.well, I s.low, I s.high] := by simp [sndCells]
theorem slpCells_snoc (l : List Slp) (s : Slp) : slpCells (l ++ [s]) = slpCells l ++ [I s.a, I s.b, I s.low, I s.high] := by simp [slpCells]
theorem OwnTwn.base' {w : World} {base base' : Nat} {v : Value} {t : Twn} (h : OwnTwn w base v t) (hb : base' ≤ base) : OwnTwn w base' v t := by
  obtain ⟨sv, pv, rfl, h1, h2⟩ := h
  exact ⟨sv, pv, rfl, own_base' h1 hb, own_base' h2 hb⟩

set_option maxRecDepth 20000 in
set_option maxHeartbeats 4000000 in
theorem sounded_any (v : Value) (t : Twn) (s : Snd) (w : World) (hv : TwnAt w v t) (hlen : t.snd.length ≤ 1000) (hlen' : t.slp.length ≤ 1000) :
    Calls Tryd.prog 19 #[v, .agg #[I s.well, I s.low, I s.high]] w fun e w' => ∃ v', e = .returned v' ∧ OwnTwn w' w.heap.size v' (addS t s) ∧ Below w.heap.size w w' := by
  obtain ⟨sv, pv, rfl, hs, hp⟩ := hv
  have HSN := Lib.hid hs
  have HSP := Lib.hid hp
  obtain ⟨A1, c1, rfl, -, -, -⟩ := id hs.open_
  obtain ⟨A2, c2, rfl, -, -, -⟩ := id hp.open_
  clear hs hp
  have S := Lib.hid ((((St.init w).alloc [I t.wells, .slice A1 t.snd.length c1, .slice A2 t.slp.length c2] 25).alloc [I s.well, I s.low, I s.high] 31).alloc [I 0, .slice none 0 0, .slice none 0 0] 25)
  obtain ⟨i0, hi, hz0, hz1, hz2⟩ := info_parts (P := Tryd.prog) (e := 31) (z := .agg #[.int .i64 0, .int .i64 0, .int .i64 0]) (size := 3) (bytes := 24) (by kernel_rfl)
  have q0 := S.out.get 2 0 rfl rfl
  have q1 := S.out.get 2 1 rfl rfl
  have q2 := S.out.get 2 2 rfl rfl
  have p0 := S.out.get 1 0 rfl rfl
  have p1 := S.out.get 1 1 rfl rfl
  have p2 := S.out.get 1 2 rfl rfl
  have h63 : t.snd.length + 1 ≤ maxLen := by simp only [maxLen]; omega
  have hby : (t.snd.length + 1) * 24 ≤ 140737488355328 := by omega
  have h02 : 0 < 3 := by decide
  go_enter Tryd.func19, Tryd.ntmps19
  go_wp2_with fail
  clear q0 q1 q2 p0 p1 p2
  refine (copy_any _ t _ ⟨_, _, rfl, HSN.out.below S.out.bel, HSP.out.below S.out.bel⟩ hlen hlen').mono ?_
  rintro e w1 ⟨v', rfl, ⟨sv', pv', rfl, ho1, ho2⟩, hb⟩
  obtain ⟨Av, cv, rfl⟩ := own_shape ho1
  obtain ⟨Aw, cw, rfl⟩ := own_shape ho2
  have S := Lib.hid ((S.out.take2 hb ho1 ho2 (by decide)).alloc [I t.wells, .slice Av t.snd.length cv, .slice Aw t.slp.length cw] 25)
  clear hb ho1 ho2
  have k0 := S.out.get 0 1 rfl rfl
  have k1 := S.out.get 4 0 rfl rfl
  have k2 := S.out.get 4 1 rfl rfl
  have k3 := S.out.get 4 2 rfl rfl
  have T := Lib.hid (S.out.alloc [I s.well, I s.low, I s.high] 31)
  go_wp2_with (at_builtin; refine wpList_append_St T.out 2 rfl _ _ 22 rfl 31 i0 (.agg #[.int .i64 0, .int .i64 0, .int .i64 0]) 3 24 Tryd.underlying22 hi hz0 hz1 hz2 rfl h02 rfl rfl _ 1 [I s.well, I s.low, I s.high] rfl (T.out.boxReads 0 rfl rfl (by omega)) (snds_one [s]) h63 hby ?_; intro v5 w5 hS5; obtain ⟨A5, c5, rfl⟩ := own_shape (hS5.own 2 rfl); have S := Lib.hid hS5; clear hS5 k0 k1 k2 k3; have u0 := S.out.get 1 1 rfl rfl; have u1 := S.out.free 1 1 rfl; have S2 := Lib.hid (S.out.set 1 1 (.slice A5 (t.snd.length + 1) c5) rfl); have u2 := S2.out.get 1 0 rfl rfl; have u3 := S2.out.get 1 1 rfl rfl; have u4 := S2.out.get 1 2 rfl rfl; have u5 := S2.out.get 4 0 rfl rfl; have u6 := S2.out.get 4 1 rfl rfl; have u7 := S2.out.get 4 2 rfl rfl; have u8 := S2.out.free 4 0 rfl; have u9 := S2.out.free 4 1 rfl; have ua := S2.out.free 4 2 rfl; have S3 := Lib.hid (((S2.out.set 4 0 (I t.wells) rfl).set 4 1 (.slice A5 (t.snd.length + 1) c5) rfl).set 4 2 (.slice Aw t.slp.length cw) rfl); have r0 := S3.out.get 4 0 rfl rfl; have r1 := S3.out.get 4 1 rfl rfl; have r2 := S3.out.get 4 2 rfl rfl)
  refine bodyPost_ret (v := .agg #[I t.wells, .slice A5 (t.snd.length + 1) c5, .slice Aw t.slp.length cw]) (by simp [results, Tryd.results19, go_sem, r0, r1, r2]) rfl ⟨_, rfl, ⟨_, _, rfl, ?_, S3.out.own 3 rfl⟩, S3.out.bel⟩
  have h := S3.out.own 2 rfl
  simpa [addS, sndCells_snoc] using h

def exT : Twn := ⟨3, [⟨0, 10, 12⟩, ⟨2, 20, 30⟩], [⟨0, 1, 3, 5⟩, ⟨1, 2, 4, 8⟩]⟩
def exQ : Twn := addS exT ⟨1, 18, 19⟩
set_option maxRecDepth 20000 in
set_option maxHeartbeats 4000000 in
theorem example_any (w : World) :
    Calls Tryd.prog 36 #[] w fun e w' => ∃ v1 v2, e = .returned (.tuple #[v1, v2]) ∧ TwnAt w' v1 exT ∧ TwnAt w' v2 exQ ∧ Below w.heap.size w w' := by
  have S := Lib.hid (((St.init w).alloc [I 0, .slice none 0 0, .slice none 0 0] 25).alloc [I 0, .slice none 0 0, .slice none 0 0] 25)
  go_enter Tryd.func36, Tryd.ntmps36
  have S := Lib.hid (((((St.init w).alloc [I 3, .slice (some ⟨w.heap.size + 1 + 1, 0, none⟩) 2 2, .slice (some ⟨w.heap.size + 1 + 1 + 1, 0, none⟩) 2 2] 25).alloc [I 0, .slice none 0 0, .slice none 0 0] 25).alloc [I 0, I 10, I 12, I 2, I 20, I 30] 31).alloc [I 0, I 1, I 3, I 5, I 1, I 2, I 4, I 8] 77)
  go_wp2_with fail
  refine wp_region_treeB (.node [0, 1, 2] [3] (fun _ => .last [] [4, 5])) 4 (by kernel_rfl) (by kernel_rfl) ?_
  intro KQ hKQ w5 hb
  have S := Lib.hid (S.out.call hb)
  clear hb
  have k0 := cell_regrown (S.out.get 3 0 rfl rfl)
  have k1 := cell_regrown (S.out.get 3 1 rfl rfl)
  have k2 := cell_regrown (S.out.get 3 2 rfl rfl)
  refine treeB_node ?_
  simp only [opsAt, List.filterMap_cons, List.filterMap_nil, List.getElem?_toArray, List.getElem?_cons_succ, List.getElem?_cons_zero]
  repeat (first | go_big_quiet_step (fail) | quiet_step (fail))
  refine wpQuiet_nil ?_
  refine all_one ?_
  intro K hK
  refine loud_op rfl rfl ?_
  go_simp
  have hr : TwnAt w5 (.agg #[I 3, .slice (some ⟨w.heap.size + 1 + 1, 0, none⟩) 2 2, .slice (some ⟨w.heap.size + 1 + 1 + 1, 0, none⟩) 2 2]) exT := ⟨_, _, rfl, S.out.boxReads 1 rfl rfl (by omega), S.out.boxReads 0 rfl rfl (by omega)⟩
  refine (sounded_any _ exT ⟨1, 18, 19⟩ _ hr (by decide) (by decide)).mono ?_
  rintro e w6 ⟨v', rfl, ⟨rv', sv', rfl, ho1, ho2⟩, hb⟩
  obtain ⟨Av, cv, rfl⟩ := own_shape ho1
  obtain ⟨Aw, cw, rfl⟩ := own_shape ho2
  have S := Lib.hid (S.out.take2 hb ho1 ho2 (by decide))
  refine hK _ _ hb ?_
  clear hK K hb ho1 ho2 hr k0 k1 k2
  refine treeB_last ?_
  simp only [opsAt, List.filterMap_cons, List.filterMap_nil, List.getElem?_toArray, List.getElem?_cons_succ, List.getElem?_cons_zero]
  refine wpQuiet_nil ?_
  have u0 := S.out.get 5 0 rfl rfl
  have u1 := S.out.get 5 1 rfl rfl
  have u2 := S.out.get 5 2 rfl rfl
  have u3 := S.out.free 5 0 rfl
  have u4 := S.out.free 5 1 rfl
  have u5 := S.out.free 5 2 rfl
  have S1 := Lib.hid (((S.out.set 5 0 (I 3) rfl).set 5 1 (.slice (some ⟨w.heap.size + 1 + 1, 0, none⟩) 2 2) rfl).set 5 2 (.slice (some ⟨w.heap.size + 1 + 1 + 1, 0, none⟩) 2 2) rfl)
  have v0 := S1.out.get 4 0 rfl rfl
  have v1 := S1.out.get 4 1 rfl rfl
  have v2 := S1.out.get 4 2 rfl rfl
  have v3 := S1.out.free 4 0 rfl
  have v4 := S1.out.free 4 1 rfl
  have v5 := S1.out.free 4 2 rfl
  have S2 := Lib.hid (((S1.out.set 4 0 (I (addS exT ⟨1, 18, 19⟩).wells) rfl).set 4 1 (.slice Av (addS exT ⟨1, 18, 19⟩).snd.length cv) rfl).set 4 2 (.slice Aw (addS exT ⟨1, 18, 19⟩).slp.length cw) rfl)
  have r0 := S2.out.get 5 0 rfl rfl
  have r1 := S2.out.get 5 1 rfl rfl
  have r2 := S2.out.get 5 2 rfl rfl
  have r3 := S2.out.get 4 0 rfl rfl
  have r4 := S2.out.get 4 1 rfl rfl
  have r5 := S2.out.get 4 2 rfl rfl
  go_wp2_with fail
  refine bodyPost_ret (v := .tuple #[.agg #[I 3, .slice (some ⟨w.heap.size + 1 + 1, 0, none⟩) 2 2, .slice (some ⟨w.heap.size + 1 + 1 + 1, 0, none⟩) 2 2], .agg #[I (addS exT ⟨1, 18, 19⟩).wells, .slice Av (addS exT ⟨1, 18, 19⟩).snd.length cv, .slice Aw (addS exT ⟨1, 18, 19⟩).slp.length cw]]) (by simp [results, Tryd.results36, go_sem, r0, r1, r2, r3, r4, r5]) rfl ⟨_, _, rfl, ⟨_, _, rfl, S2.out.boxReads 3 rfl rfl (by omega), S2.out.boxReads 2 rfl rfl (by omega)⟩, ⟨_, _, rfl, Reads.of_own (S2.out.own 0 rfl), Reads.of_own (S2.out.own 1 rfl)⟩, S2.out.bel⟩

end Go.Proofs.YtldcehhhndlhdaaDoor
/- Towns of buckets; the reference's small words. -/
namespace Go.Proofs.YtldcehhhndlhdaaDoor
open Go.RowKit Go.Sort Go.Shelf

/-- A town of buckets: what the houses want, what the wells have, the ways (a house, and a well: a pair). -/
structure BTown where
  hs : List Int
  ws : List Int
  ys : List Sp
def BAt (w : World) (v : Value) (t : BTown) : Prop := ∃ hv wv yv, v = .agg #[hv, wv, yv] ∧ Ints w hv t.hs ∧ Ints w wv t.ws ∧ Sps w yv t.ys
theorem BAt.below {w w' : World} {v : Value} {t : BTown} (h : BAt w v t) (hb : Below w.heap.size w w') : BAt w' v t := by
  obtain ⟨a, b, c, e, h1, h2, h3⟩ := h
  exact ⟨a, b, c, e, h1.below hb, h2.below hb, h3.below hb⟩
def hugeB3 (t : BTown) : Bool := decide (40 < t.hs.length) || (decide (40 < t.ws.length) || decide (40 < t.ys.length))
def befY (a b : Sp) : Bool := decide (a.low < b.low) || (decide (a.low = b.low) && decide (a.high < b.high))
def isH3 (t : BTown) (n : Int) : Bool := inR n 0 ((t.hs.length : Int) - 1)
def isW3 (t : BTown) (n : Int) : Bool := inR n 0 ((t.ws.length : Int) - 1)
/-- The way i, seen from what comes ahead of it, is as it must be. -/
def okY (t : BTown) (i : Nat) : Bool := isH3 t (spAt t.ys i).low && isW3 t (spAt t.ys i).high && (decide (i = 0) || befY (spAt t.ys (i - 1)) (spAt t.ys i))
def bVal (t : BTown) : Bool := decide (t.hs.length ≤ 6) && decide (t.ws.length ≤ 5) && t.hs.all (fun n => inR n 0 9) && t.ws.all (fun n => inR n 0 20) && (List.range t.ys.length).all (okY t)
def bValid (t : BTown) : Bool := decide (t.ys.length ≤ 12) && bVal t
def bChk (t : BTown) : Int := if bValid t then 0 else 30
set_option maxRecDepth 20000 in
set_option maxHeartbeats 400000 in
theorem rWithin3_any (n lo hi : Int) (w : World) :
    Calls Tryd.prog 64 #[I n, I lo, I hi] w fun e w' => e = .returned (.bool (inR n lo hi)) ∧ w = w' := by
  go_enter Tryd.func64, Tryd.ntmps64
  go_wp2_with fail
  refine (rWithin_any _ _ _ _).mono ?_
  rintro e w1 ⟨rfl, rfl⟩
  go_wp2_with fail
  go_ret
  exact ⟨rfl, rfl⟩

set_option maxRecDepth 20000 in
set_option maxHeartbeats 400000 in
theorem rIsHouse3_any (n : Int) (A1 A2 A3 : Option Addr) (m1 c1 m2 c2 m3 c3 : Nat) (w : World) (hm : m1 ≤ 1000) :
    Calls Tryd.prog 65 #[.agg #[.slice A1 m1 c1, .slice A2 m2 c2, .slice A3 m3 c3], I n] w fun e w' => e = .returned (.bool (inR n 0 ((m1 : Int) - 1))) ∧ Below w.heap.size w w' := by
  go_enter Tryd.func65, Tryd.ntmps65
  go_wp2_with fail
  refine (rWithin3_any _ _ _ _).mono ?_
  rintro e w1 ⟨rfl, rfl⟩
  go_wp2_with fail
  go_ret
  exact ⟨rfl, (Below.refl _ _).alloc (Nat.le_refl _) _⟩

set_option maxRecDepth 20000 in
set_option maxHeartbeats 400000 in
theorem rIsWell3_any (n : Int) (A1 A2 A3 : Option Addr) (m1 c1 m2 c2 m3 c3 : Nat) (w : World) (hm : m2 ≤ 1000) :
    Calls Tryd.prog 66 #[.agg #[.slice A1 m1 c1, .slice A2 m2 c2, .slice A3 m3 c3], I n] w fun e w' => e = .returned (.bool (inR n 0 ((m2 : Int) - 1))) ∧ Below w.heap.size w w' := by
  go_enter Tryd.func66, Tryd.ntmps66
  go_wp2_with fail
  refine (rWithin3_any _ _ _ _).mono ?_
  rintro e w1 ⟨rfl, rfl⟩
  go_wp2_with fail
  go_ret
  exact ⟨rfl, (Below.refl _ _).alloc (Nat.le_refl _) _⟩

set_option maxRecDepth 20000 in
set_option maxHeartbeats 800000 in
theorem rBefore3_any (a b c d : Int) (w : World) :
    Calls Tryd.prog 67 #[.agg #[I a, I b], .agg #[I c, I d]] w fun e w' => e = .returned (.bool (befY ⟨a, b⟩ ⟨c, d⟩)) ∧ Below w.heap.size w w' := by
  go_enter Tryd.func67, Tryd.ntmps67
  have hb : Below w.heap.size w ((w.alloc (.cells #[I a, I b] 102)).alloc (.cells #[I c, I d] 102)) := ((Below.refl _ _).alloc (Nat.le_refl _) _).alloc (by simp) _
  by_cases h1 : a < c
  · go_wp2_with fail
    go_ret
    exact ⟨by simp [befY, h1], hb⟩
  · by_cases h2 : a = c
    · subst h2
      by_cases h3 : b < d
      · go_wp2_with fail
        go_ret
        exact ⟨by simp [befY, h3], hb⟩
      · go_wp2_with fail
        go_ret
        exact ⟨by simp [befY, h3], hb⟩
    · go_wp2_with fail
      go_ret
      exact ⟨by simp [befY, h1, h2], hb⟩

set_option maxRecDepth 20000 in
set_option maxHeartbeats 800000 in
theorem huge3_any (v : Value) (t : BTown) (w : World) (hv : BAt w v t) :
    Calls Tryd.prog 47 #[v] w fun e w' => e = .returned (.bool (hugeB3 t)) ∧ Below w.heap.size w w' := by
  obtain ⟨hv, wv, yv, rfl, hh, hw, hy⟩ := hv
  obtain ⟨A1, c1, rfl, -, -, -⟩ := id hh.open_
  obtain ⟨A2, c2, rfl, -, -, -⟩ := id hw.open_
  obtain ⟨A3, c3, rfl, -, -, -⟩ := id hy.open_
  have HH := Lib.hid hh
  have HW := Lib.hid hw
  have HY := Lib.hid hy
  clear hh hw hy
  have S := Lib.hid ((St.init w).alloc [.slice A1 t.hs.length c1, .slice A2 t.ws.length c2, .slice A3 t.ys.length c3] 62)
  have q0 := S.out.get 0 0 rfl rfl
  have q1 := S.out.get 0 1 rfl rfl
  have q2 := S.out.get 0 2 rfl rfl
  go_enter Tryd.func47, Tryd.ntmps47
  by_cases h1 : (40 : Int) < (t.hs.length : Int)
  · go_wp2_with fail
    go_ret
    exact ⟨by simp [hugeB3]; omega, S.out.bel⟩
  · by_cases h2 : (40 : Int) < (t.ws.length : Int)
    · go_wp2_with fail
      go_ret
      exact ⟨by simp [hugeB3]; omega, S.out.bel⟩
    · by_cases h3 : (40 : Int) < (t.ys.length : Int)
      · go_wp2_with fail
        go_ret
        exact ⟨by simp [hugeB3]; omega, S.out.bel⟩
      · go_wp2_with fail
        go_ret
        exact ⟨by simp [hugeB3]; omega, S.out.bel⟩

end Go.Proofs.YtldcehhhndlhdaaDoor
