/- Walks: filled. -/
import Derived.Test.YtldcehhhndlhdaaDoorC27
import Derived.Test.YtldcehhhndlhdaaDoorC12
import Derived.Test.YtldcehhhndlhdaaDoorC13
import Derived.Test.YtldcehhhndlhdaaDoorC15
import Derived.Test.YtldcehhhndlhdaaDoorC21
namespace Go.Proofs.YtldcehhhndlhdaaDoor
open Go.RowKit Go.Sort Go.Shelf

/-- A town whose wells have a bucket for so many feet. -/
def fillT (t : BTown) (l : List Int) (each : Int) : BTown := ⟨t.hs, l.map (fun x => x.tdiv each), t.ys⟩
def fillTo (ws l : List Int) (each : Int) (k : Nat) : List Int := (l.take k).map (fun x => x.tdiv each) ++ ws.drop k
theorem fillTo_len {ws l : List Int} {each : Int} {k : Nat} (h : l.length = ws.length) (hk : k ≤ l.length) : (fillTo ws l each k).length = ws.length := by
  simp [fillTo]
  omega
theorem fillTo_set {ws l : List Int} {each : Int} {k : Nat} (h : l.length = ws.length) (hk : k < l.length) : (fillTo ws l each k).set k (l[k].tdiv each) = fillTo ws l each (k + 1) := by
  unfold fillTo
  have e1 : ((l.take k).map (fun x => x.tdiv each)).length = k := by simp; omega
  rw [List.set_append_right _ _ (by omega), e1, Nat.sub_self, List.drop_eq_getElem_cons (show k < ws.length by omega), List.set_cons_zero, List.take_succ_eq_append_getElem hk, List.map_append]
  simp
theorem fillTo_end {ws l : List Int} {each : Int} (h : l.length = ws.length) : fillTo ws l each l.length = l.map (fun x => x.tdiv each) := by
  unfold fillTo
  rw [List.take_length, List.drop_eq_nil_of_le (by omega), List.append_nil]
theorem tdiv_bd {x each : Int} (h0 : 0 ≤ x) (h1 : x ≤ 99) (h5 : 5 ≤ each) : 0 ≤ x.tdiv each ∧ x.tdiv each ≤ 19 := by
  rw [Int.tdiv_eq_ediv_of_nonneg h0]
  refine ⟨Int.ediv_nonneg h0 (by omega), ?_⟩
  have : x / each < 20 := Int.ediv_lt_of_lt_mul (by omega) (by omega)
  omega

set_option maxRecDepth 20000 in
set_option maxHeartbeats 4000000 in
theorem filled_any (v fv : Value) (t : BTown) (l : List Int) (each : Int) (w : World) (hv : BAt w v t) (hl : Ints w fv l) (hlen : l.length = t.ws.length) (h1 : t.hs.length ≤ 1000) (h2 : t.ws.length ≤ 1000) (h3 : t.ys.length ≤ 1000) (hr : ∀ x ∈ l, 0 ≤ x ∧ x ≤ 99) (he5 : 5 ≤ each) (he9 : each ≤ 99) :
    Calls Tryd.prog 28 #[v, fv, I each] w fun e w' => ∃ v', e = .returned (.tuple #[v', .bool true]) ∧ BAt w' v' (fillT t l each) ∧ Below w.heap.size w w' := by
  obtain ⟨hv0, wv, yv, rfl, hh, hw, hy⟩ := hv
  obtain ⟨A1, c1, rfl, -, -, -⟩ := id hh.open_
  obtain ⟨A2, c2, rfl, -, -, -⟩ := id hw.open_
  obtain ⟨A3, c3, rfl, -, -, -⟩ := id hy.open_
  obtain ⟨A4, c4, rfl, -, -, hc4⟩ := id hl.open_
  have HH := Lib.hid hh
  have HW := Lib.hid hw
  have HY := Lib.hid hy
  have HC4 := Lib.hid hc4
  have HR := Lib.hid hr
  have HLE := Lib.hid hlen
  have S := Lib.hid (((St.init w).alloc [.slice A1 t.hs.length c1, .slice A2 t.ws.length c2, .slice A3 t.ys.length c3] 62).alloc [.slice none 0 0, .slice none 0 0, .slice none 0 0] 62)
  clear hh hw hy hl hc4 hr
  have q0 := S.out.get 1 0 rfl rfl
  have q1 := S.out.get 1 1 rfl rfl
  have q2 := S.out.get 1 2 rfl rfl
  go_enter Tryd.func28, Tryd.ntmps28
  go_wp2_with fail
  clear q0 q1 q2
  refine (copy3_any _ t _ ⟨_, _, _, rfl, HH.out.below S.out.bel, HW.out.below S.out.bel, HY.out.below S.out.bel⟩ (by omega) (by omega) (by omega)).mono ?_
  rintro e w1 ⟨v1, rfl, hv', wv', yv', rfl, SL⟩
  have S := Lib.hid (S.out.join SL)
  obtain ⟨Ah, ch, rfl⟩ := own_shape (SL.own 0 rfl)
  obtain ⟨Aw, cw, rfl⟩ := own_shape (SL.own 1 rfl)
  obtain ⟨Ay, cy, rfl⟩ := own_shape (SL.own 2 rfl)
  clear SL
  have S := Lib.hid (S.out.alloc [.slice Ah t.hs.length ch, .slice Aw t.ws.length cw, .slice Ay t.ys.length cy] 62)
  obtain ⟨w2, hw2⟩ : ∃ x, w1.alloc (.cells #[.slice Ah t.hs.length ch, .slice Aw t.ws.length cw, .slice Ay t.ys.length cy] 62) = x := ⟨_, rfl⟩
  obtain ⟨b8, hb8⟩ : ∃ b, w1.heap.size = b := ⟨_, rfl⟩
  have hqlen : ((l.length : Int) != (t.ws.length : Int)) = false := by simp [hlen]
  have S := Lib.hid (show St w w2 w2.heap.size [.box b8 [.slice Ah t.hs.length ch, .slice Aw t.ws.length cw, .slice Ay t.ys.length cy], .own 3 1 (.slice Ah t.hs.length ch) t.hs.length (t.hs.map I), .own 3 1 (.slice Aw t.ws.length cw) t.ws.length ((fillTo t.ws l each 0).map I), .own 102 2 (.slice Ay t.ys.length cy) t.ys.length (spCells t.ys), .box (w.heap.size + 1) [.slice none 0 0, .slice none 0 0, .slice none 0 0]] from by
    have h := S.out.fix.less (M := [.box w1.heap.size [.slice Ah t.hs.length ch, .slice Aw t.ws.length cw, .slice Ay t.ys.length cy], .own 3 1 (.slice Ah t.hs.length ch) t.hs.length (t.hs.map I), .own 3 1 (.slice Aw t.ws.length cw) t.ws.length (t.ws.map I), .own 102 2 (.slice Ay t.ys.length cy) t.ys.length (spCells t.ys), .box (w.heap.size + 1) [.slice none 0 0, .slice none 0 0, .slice none 0 0]]) (List.Sublist.cons_cons _ (List.Sublist.cons_cons _ (List.Sublist.cons_cons _ (List.Sublist.cons_cons _ (List.Sublist.cons_cons _ (List.nil_sublist _))))))
    rw [← hw2, ← hb8]
    exact h)
  have h5 : (each : Int) ≠ 0 := by omega
  have x1 := S.out.get 0 1 rfl rfl
  go_wp2_with fail
  clear x1 hw2 hb8
  go_loopw [9] (fun i wr => ∃ k : Nat, k ≤ l.length ∧ i = I k ∧ Hid (St w wr wr.heap.size [.box b8 [.slice Ah t.hs.length ch, .slice Aw t.ws.length cw, .slice Ay t.ys.length cy], .own 3 1 (.slice Ah t.hs.length ch) t.hs.length (t.hs.map I), .own 3 1 (.slice Aw t.ws.length cw) t.ws.length ((fillTo t.ws l each k).map I), .own 102 2 (.slice Ay t.ys.length cy) t.ys.length (spCells t.ys), .box (w.heap.size + 1) [.slice none 0 0, .slice none 0 0, .slice none 0 0]])) (fun i _ => l.length - (intOf i).toNat)
  case atStart => exact ⟨0, by omega, rfl, S⟩
  case round =>
    clear S
    obtain ⟨k, hk, rfl, S⟩ := hrel
    by_cases hlt : k < l.length
    · have hki : (k : Int) < (l.length : Int) := by omega
      have hkw : (k : Int) < (t.ws.length : Int) := by omega
      obtain ⟨b4, o4, hA4, -, hcell4⟩ := HC4.out (by omega)
      subst hA4
      have x0 := keep_cell S.out.bel (hcell4 k hlt)
      obtain ⟨hx0, hx9⟩ := HR.out _ (List.getElem_mem hlt)
      have HS := Lib.hid (fillTo_set (each := each) HLE.out hlt)
      obtain ⟨hd0, hd9⟩ := tdiv_bd hx0 hx9 he5
      obtain ⟨x, hx⟩ : ∃ x, l[k] = x := ⟨_, rfl⟩
      rw [hx] at x0 hx0 hx9 HS hd0 hd9
      clear hx hcell4
      have wd : IntKind.i64.wrap (x.tdiv each) = x.tdiv each := IntWalk.i64_in _ (by omega)
      obtain ⟨gw, hgw⟩ := own_some (S.out.own 2 rfl) (by omega)
      subst hgw
      have HX0 := Lib.hid x0
      go_wp2_with fail
      refine wp_region_seg [] [0, 1, 2, 3, 4, 5, 6, 7, 8, 9, 10] [11] 11 (by kernel_rfl) (by kernel_rfl) ?_
      intro KQ hKQ wz hbz
      have S := Lib.hid (S.out.call hbz)
      have x0' := cell_regrown (keep_cell hbz HX0.out)
      clear hbz x0
      have y1 := cell_regrown (S.out.get 0 1 rfl rfl)
      refine seg_last ?_
      simp only [opsAt, List.filterMap_cons, List.filterMap_nil, List.getElem?_toArray, List.getElem?_cons_succ, List.getElem?_cons_zero]
      show wpQuiet _ _ _ _ [_, _, _, _, _, _, _, _, _, _, _] _
      repeat (first | go_big_quiet_step (fail) | quiet_step (fail))
      refine wpQuiet_nil ?_
      clear x0' y1
      have yk := own_cell (S.out.own 2 rfl) k _ (rowGet (l := fillTo t.ws l each k) (by rw [fillTo_len HLE.out hk]; omega))
      have zk := (S.out.own 2 rfl).frozenAt k
      have S2 := S.out.put 2 k (I (x.tdiv each)) rfl
      dsimp only [List.set_cons_zero, List.set_cons_succ] at S2
      rw [← List.map_set, HS.out] at S2
      have S2 := Lib.hid S2
      have HMN := Lib.hid (show min 20 (x.tdiv each) = x.tdiv each by omega)
      go_wp2_with fail
      go_roundw
      case rel => exact ⟨k + 1, by omega, by go_num, Lib.hid (by rw [HMN.out]; exact S2.out.fix)⟩
      case measure => first | (simp [intOf]; done) | (simp [intOf]; omega)
    · obtain rfl : k = l.length := by omega
      have hkw : ¬ ((l.length : Int) < (t.ws.length : Int)) := by omega
      have S := Lib.hid (show St w wr wr.heap.size [.box b8 [.slice Ah t.hs.length ch, .slice Aw t.ws.length cw, .slice Ay t.ys.length cy], .own 3 1 (.slice Ah t.hs.length ch) t.hs.length (t.hs.map I), .own 3 1 (.slice Aw t.ws.length cw) t.ws.length ((l.map (fun x => x.tdiv each)).map I), .own 102 2 (.slice Ay t.ys.length cy) t.ys.length (spCells t.ys), .box (w.heap.size + 1) [.slice none 0 0, .slice none 0 0, .slice none 0 0]] by rw [← fillTo_end (ws := t.ws) HLE.out]; exact S.out)
      have x0 := S.out.get 0 0 rfl rfl
      have x1 := S.out.get 0 1 rfl rfl
      have x2 := S.out.get 0 2 rfl rfl
      have u0 := S.out.get 4 0 rfl rfl
      have u1 := S.out.get 4 1 rfl rfl
      have u2 := S.out.get 4 2 rfl rfl
      have z0 := S.out.free 4 0 rfl
      have z1 := S.out.free 4 1 rfl
      have z2 := S.out.free 4 2 rfl
      have S2 := ((S.out.set 4 0 (.slice Ah t.hs.length ch) rfl).set 4 1 (.slice Aw t.ws.length cw) rfl).set 4 2 (.slice Ay t.ys.length cy) rfl
      have r0 := S2.get 4 0 rfl rfl
      have r1 := S2.get 4 1 rfl rfl
      have r2 := S2.get 4 2 rfl rfl
      have hll : (l.map (fun x => x.tdiv each)).length = t.ws.length := by rw [List.length_map]; exact HLE.out
      go_wp2_with fail
      refine bodyPost_ret (v := .tuple #[.agg #[.slice Ah t.hs.length ch, .slice Aw t.ws.length cw, .slice Ay t.ys.length cy], .bool true]) (by simp [results, Tryd.results28, go_sem, r0, r1, r2]) rfl ⟨_, rfl, ⟨_, _, _, rfl, S2.ints 1 rfl, ?_, S2.row 3 rfl⟩, S2.bel⟩
      have h := S2.row 2 rfl
      unfold Ints
      show Reads _ 1 _ (l.map (fun x => x.tdiv each)).length _
      rw [hll]
      exact h

end Go.Proofs.YtldcehhhndlhdaaDoor
/- Walks: the example of the buckets; drawn. -/
namespace Go.Proofs.YtldcehhhndlhdaaDoor
open Go.RowKit Go.Sort Go.Shelf

/-- What is stored where it lay already turns nothing. -/
theorem setCell_same {w : World} {b o : Nat} {v : Value} (h : ∃ cs T fr, w.heap[b]? = some (.cells cs T fr) ∧ cs[o]? = some v) : w.setCell ⟨b, o, none⟩ v = w := by
  obtain ⟨cs, T, fr, h1, h2⟩ := h
  have hlt := lt_of_block h1
  have h' : w.heap[b] = .cells cs T fr := by simpa [Array.getElem?_eq_getElem hlt] using h1
  have e : (w.setCell ⟨b, o, none⟩ v).heap = w.heap := by
    apply Array.ext_getElem?
    intro i
    by_cases hi : i = b
    · subst hi
      show (w.heap.modify i _)[i]? = _
      rw [Array.getElem?_eq_getElem (by simpa using hlt), Array.getElem_modify_self, h', h1]
      have hs : cs.setIfInBounds o v = cs := by
        apply Array.ext_getElem?
        intro j
        rw [Array.getElem?_setIfInBounds]
        split
        · rename_i hj
          subst hj
          rw [if_pos (Array.getElem?_eq_some_iff.1 h2).1, h2]
        · rfl
      simp [hs]
    · exact Below.heap_setCell w ⟨b, o, none⟩ v i hi
  cases w
  simp only [World.setCell] at e ⊢
  simp only [World.mk.injEq, and_true]
  exact e
theorem St.same {w0 w : World} {n : Nat} {L : List Item} (S : St w0 w n L) (i o : Nat) {b : Nat} {cs : List Value} {v : Value} (hi : L[i]? = some (.box b cs)) (hv : cs[o]? = some v) : w.setCell ⟨b, o, none⟩ v = w := by
  obtain ⟨T, hT⟩ := S.row? i hi
  exact setCell_same ⟨_, T, _, hT, by simpa using hv⟩
def exT3 : BTown := ⟨[5, 4, 3], [4, 3], [⟨0, 0⟩, ⟨1, 0⟩, ⟨1, 1⟩, ⟨2, 1⟩]⟩
def exU3 : BTown := ⟨[2, 3], [5, 0], [⟨0, 0⟩, ⟨1, 1⟩]⟩
def exV3 : BTown := ⟨[1], [1, 1], [⟨0, 0⟩, ⟨0, 1⟩]⟩

set_option maxRecDepth 20000 in
set_option maxHeartbeats 8000000 in
theorem example3_any (w : World) :
    Calls Tryd.prog 49 #[] w fun e w' => ∃ v1 v2 v3, e = .returned (.tuple #[v1, v2, v3]) ∧ BAt w' v1 exT3 ∧ BAt w' v2 exU3 ∧ BAt w' v3 exV3 ∧ Below w.heap.size w w' := by
  have S := Lib.hid ((((((((((((((St.init w).alloc [.slice (some ⟨w.heap.size + 1 + 1 + 1, 0, none⟩) 3 3, .slice (some ⟨w.heap.size + 1 + 1 + 1 + 1, 0, none⟩) 2 2, .slice (some ⟨w.heap.size + 1 + 1 + 1 + 1 + 1, 0, none⟩) 4 4] 62).alloc [.slice (some ⟨w.heap.size + 1 + 1 + 1 + 1 + 1 + 1, 0, none⟩) 2 2, .slice (some ⟨w.heap.size + 1 + 1 + 1 + 1 + 1 + 1 + 1, 0, none⟩) 2 2, .slice (some ⟨w.heap.size + 1 + 1 + 1 + 1 + 1 + 1 + 1 + 1, 0, none⟩) 2 2] 62).alloc [.slice (some ⟨w.heap.size + 1 + 1 + 1 + 1 + 1 + 1 + 1 + 1 + 1, 0, none⟩) 1 1, .slice (some ⟨w.heap.size + 1 + 1 + 1 + 1 + 1 + 1 + 1 + 1 + 1 + 1, 0, none⟩) 2 2, .slice (some ⟨w.heap.size + 1 + 1 + 1 + 1 + 1 + 1 + 1 + 1 + 1 + 1 + 1, 0, none⟩) 2 2] 62).alloc [I 5, I 4, I 3] 3).alloc [I 4, I 3] 3).alloc [I 0, I 0, I 1, I 0, I 1, I 1, I 2, I 1] 102).alloc [I 2, I 3] 3).alloc [I 5, I 0] 3).alloc [I 0, I 0, I 1, I 1] 102).alloc [I 1] 3).alloc [I 1, I 1] 3).alloc [I 0, I 0, I 0, I 1] 102))
  go_enter Tryd.func49, Tryd.ntmps49
  go_wp2_with fail
  refine wp_region_treeB (.node [0, 1, 2] [3] (fun _ => .node [] [4] (fun _ => .node [] [5] (fun _ => .last [] [])))) 6 (by kernel_rfl) (by kernel_rfl) ?_
  intro KQ hKQ w5 hb
  have S := Lib.hid (S.out.call hb)
  clear hb
  have k00 := cell_regrown (S.out.get 11 0 rfl rfl)
  have k01 := cell_regrown (S.out.get 11 1 rfl rfl)
  have k02 := cell_regrown (S.out.get 11 2 rfl rfl)
  have k10 := cell_regrown (S.out.get 10 0 rfl rfl)
  have k11 := cell_regrown (S.out.get 10 1 rfl rfl)
  have k12 := cell_regrown (S.out.get 10 2 rfl rfl)
  have k20 := cell_regrown (S.out.get 9 0 rfl rfl)
  have k21 := cell_regrown (S.out.get 9 1 rfl rfl)
  have k22 := cell_regrown (S.out.get 9 2 rfl rfl)
  refine treeB_node ?_
  simp only [opsAt, List.filterMap_cons, List.filterMap_nil, List.getElem?_toArray, List.getElem?_cons_succ, List.getElem?_cons_zero]
  show wpQuiet _ _ _ _ [_, _, _] _
  repeat (first | go_big_quiet_step (fail) | quiet_step (fail))
  refine wpQuiet_nil ?_
  refine all_one ?_
  intro K hK
  refine loud_op rfl rfl ?_
  have u0 := S.out.get 11 0 rfl rfl
  have u1 := S.out.get 11 1 rfl rfl
  have u2 := S.out.get 11 2 rfl rfl
  have z0 := S.out.free 11 0 rfl
  have z1 := S.out.free 11 1 rfl
  have z2 := S.out.free 11 2 rfl
  go_simp
  rw [S.out.same 11 0 rfl rfl, S.out.same 11 1 rfl rfl, S.out.same 11 2 rfl rfl]
  refine hK _ _ (Below.refl _ _) ?_
  clear hK K u0 u1 u2 z0 z1 z2
  refine treeB_node ?_
  simp only [opsAt, List.filterMap_nil]
  refine wpQuiet_nil ?_
  refine all_one ?_
  intro K hK
  refine loud_op rfl rfl ?_
  have u0 := S.out.get 10 0 rfl rfl
  have u1 := S.out.get 10 1 rfl rfl
  have u2 := S.out.get 10 2 rfl rfl
  have z0 := S.out.free 10 0 rfl
  have z1 := S.out.free 10 1 rfl
  have z2 := S.out.free 10 2 rfl
  go_simp
  rw [S.out.same 10 0 rfl rfl, S.out.same 10 1 rfl rfl, S.out.same 10 2 rfl rfl]
  refine hK _ _ (Below.refl _ _) ?_
  clear hK K u0 u1 u2 z0 z1 z2
  refine treeB_node ?_
  simp only [opsAt, List.filterMap_nil]
  refine wpQuiet_nil ?_
  refine all_one ?_
  intro K hK
  refine loud_op rfl rfl ?_
  have u0 := S.out.get 9 0 rfl rfl
  have u1 := S.out.get 9 1 rfl rfl
  have u2 := S.out.get 9 2 rfl rfl
  have z0 := S.out.free 9 0 rfl
  have z1 := S.out.free 9 1 rfl
  have z2 := S.out.free 9 2 rfl
  go_simp
  rw [S.out.same 9 0 rfl rfl, S.out.same 9 1 rfl rfl, S.out.same 9 2 rfl rfl]
  refine hK _ _ (Below.refl _ _) ?_
  clear hK K u0 u1 u2 z0 z1 z2
  refine treeB_last ?_
  simp only [opsAt, List.filterMap_nil]
  refine wpQuiet_nil ?_
  go_wp2_with fail
  have r00 := S.out.get 11 0 rfl rfl
  have r01 := S.out.get 11 1 rfl rfl
  have r02 := S.out.get 11 2 rfl rfl
  have r10 := S.out.get 10 0 rfl rfl
  have r11 := S.out.get 10 1 rfl rfl
  have r12 := S.out.get 10 2 rfl rfl
  have r20 := S.out.get 9 0 rfl rfl
  have r21 := S.out.get 9 1 rfl rfl
  have r22 := S.out.get 9 2 rfl rfl
  refine bodyPost_ret (v := .tuple #[.agg #[.slice (some ⟨w.heap.size + 1 + 1 + 1, 0, none⟩) 3 3, .slice (some ⟨w.heap.size + 1 + 1 + 1 + 1, 0, none⟩) 2 2, .slice (some ⟨w.heap.size + 1 + 1 + 1 + 1 + 1, 0, none⟩) 4 4], .agg #[.slice (some ⟨w.heap.size + 1 + 1 + 1 + 1 + 1 + 1, 0, none⟩) 2 2, .slice (some ⟨w.heap.size + 1 + 1 + 1 + 1 + 1 + 1 + 1, 0, none⟩) 2 2, .slice (some ⟨w.heap.size + 1 + 1 + 1 + 1 + 1 + 1 + 1 + 1, 0, none⟩) 2 2], .agg #[.slice (some ⟨w.heap.size + 1 + 1 + 1 + 1 + 1 + 1 + 1 + 1 + 1, 0, none⟩) 1 1, .slice (some ⟨w.heap.size + 1 + 1 + 1 + 1 + 1 + 1 + 1 + 1 + 1 + 1, 0, none⟩) 2 2, .slice (some ⟨w.heap.size + 1 + 1 + 1 + 1 + 1 + 1 + 1 + 1 + 1 + 1 + 1, 0, none⟩) 2 2]]) (by simp [results, Tryd.results49, go_sem, r00, r01, r02, r10, r11, r12, r20, r21, r22]) rfl ⟨_, _, _, rfl, ⟨_, _, _, rfl, S.out.boxReads 8 rfl rfl (by omega), S.out.boxReads 7 rfl rfl (by omega), S.out.boxReads 6 rfl rfl (by omega)⟩, ⟨_, _, _, rfl, S.out.boxReads 5 rfl rfl (by omega), S.out.boxReads 4 rfl rfl (by omega), S.out.boxReads 3 rfl rfl (by omega)⟩, ⟨_, _, _, rfl, S.out.boxReads 2 rfl rfl (by omega), S.out.boxReads 1 rfl rfl (by omega), S.out.boxReads 0 rfl rfl (by omega)⟩, S.out.bel⟩

end Go.Proofs.YtldcehhhndlhdaaDoor
/- Walks: drawn. -/
namespace Go.Proofs.YtldcehhhndlhdaaDoor
open Go.RowKit Go.Sort Go.Shelf

theorem low_ex : endsP exT Sp.low = ([10, 13, 20], 0) := by decide +kernel
theorem ex3_val : bVal exT3 = true := by decide +kernel
theorem ex3_lacks : Bk.lacksL exT3.bt Bk.exD = [2, 2, 1] := by decide
theorem ex3_best : Bk.Best exT3.bt Bk.exD := by
  refine ⟨⟨by decide, by decide, by decide⟩, fun e he => ?_⟩
  have l0 := he.lack 0 (by decide)
  have l1 := he.lack 1 (by decide)
  have l2 := he.lack 2 (by decide)
  have w0 := he.has 0 (by decide)
  have w1 := he.has 1 (by decide)
  have e0 : Bk.lackH exT3.bt e 0 = 5 - e 0 := by simp [Bk.lackH, Bk.drawH, Bk.sumR, exT3, BTown.bt, spAt]
  have e1 : Bk.lackH exT3.bt e 1 = 4 - (e 1 + e 2) := by simp [Bk.lackH, Bk.drawH, Bk.sumR, exT3, BTown.bt, spAt]
  have e2 : Bk.lackH exT3.bt e 2 = 3 - e 3 := by simp [Bk.lackH, Bk.drawH, Bk.sumR, exT3, BTown.bt, spAt]
  have f0 : Bk.hasW exT3.bt e 0 = 4 - (e 0 + e 1) := by simp [Bk.hasW, Bk.giveW, Bk.sumR, exT3, BTown.bt, spAt]
  have f1 : Bk.hasW exT3.bt e 1 = 3 - (e 2 + e 3) := by simp [Bk.hasW, Bk.giveW, Bk.sumR, exT3, BTown.bt, spAt]
  have d0 := Bk.dear_line l0
  have d1 := Bk.dear_line l1
  have d2 := Bk.dear_line l2
  have hc : Bk.costB exT3.bt Bk.exD = 105000 := by decide
  have hc2 : Bk.costB exT3.bt e = Bk.dear (Bk.lackH exT3.bt e 0) + Bk.dear (Bk.lackH exT3.bt e 1) + Bk.dear (Bk.lackH exT3.bt e 2) := by
    show Bk.sumR 3 (fun h => Bk.dear (Bk.lackH exT3.bt e h)) = _
    simp only [Bk.sumR]
    omega
  omega
theorem ex3_desc {d : Nat → Int} (h : Bk.Best exT3.bt d) : descL (Bk.lacksL exT3.bt d) = [2, 2, 1] :=
  Bk.best_one h ex3_best (by decide) (descL_perm _) (by rw [ex3_lacks]) (descL_sorted _) (by unfold Bk.SortD; decide)

set_option maxRecDepth 20000 in
set_option maxHeartbeats 8000000 in
theorem drawn_any (w : World) (hN : NnAt w) :
    Calls Tryd.prog 25 #[] w fun e w' => e = .returned (.bool true) ∧ Below w.heap.size w w' := by
  have HN := Lib.hid hN
  clear hN
  go_enter Tryd.func25, Tryd.ntmps25
  go_wp2_with fail
  refine (example_any _).mono ?_
  rintro e w1 ⟨v1, v2, rfl, ⟨sa, pa, rfl, ha1, ha2⟩, ⟨sb, pb, rfl, hb1, hb2⟩, hb⟩
  obtain ⟨A1, c1, rfl, -, -, -⟩ := id ha1.open_
  obtain ⟨A2, c2, rfl, -, -, -⟩ := id ha2.open_
  obtain ⟨A3, c3, rfl, -, -, -⟩ := id hb1.open_
  obtain ⟨A4, c4, rfl, -, -, -⟩ := id hb2.open_
  have HA1 := Lib.hid ha1
  have HA2 := Lib.hid ha2
  have HB := Lib.hid hb
  clear ha1 ha2 hb1 hb2 hb
  have S := Lib.hid (((St.init w1).alloc [I exT.wells, .slice A1 exT.snd.length c1, .slice A2 exT.slp.length c2] 25).alloc [I exQ.wells, .slice A3 exQ.snd.length c3, .slice A4 exQ.slp.length c4] 25)
  go_wp2_with fail
  refine (example3_any _).mono ?_
  rintro e w2 ⟨v1, v2, v3, rfl, ⟨ha, wa, ya, rfl, h1, h2, h3⟩, ⟨hb', wb, yb, rfl, u1, u2, u3⟩, ⟨hc, wc, yc, rfl, x1, x2, x3⟩, hb⟩
  obtain ⟨A5, c5, rfl, -, -, -⟩ := id h1.open_
  obtain ⟨A6, c6, rfl, -, -, -⟩ := id h2.open_
  obtain ⟨A7, c7, rfl, -, -, -⟩ := id h3.open_
  obtain ⟨B5, d5, rfl, -, -, -⟩ := id u1.open_
  obtain ⟨B6, d6, rfl, -, -, -⟩ := id u2.open_
  obtain ⟨B7, d7, rfl, -, -, -⟩ := id u3.open_
  obtain ⟨C5, e5, rfl, -, -, -⟩ := id x1.open_
  obtain ⟨C6, e6, rfl, -, -, -⟩ := id x2.open_
  obtain ⟨C7, e7, rfl, -, -, -⟩ := id x3.open_
  have HT := Lib.hid (show BAt w2 (.agg #[.slice A5 exT3.hs.length c5, .slice A6 exT3.ws.length c6, .slice A7 exT3.ys.length c7]) exT3 from ⟨_, _, _, rfl, h1, h2, h3⟩)
  clear h1 h2 h3 u1 u2 u3 x1 x2 x3
  have T := Lib.hid ((((St.init w2).alloc [.slice A5 exT3.hs.length c5, .slice A6 exT3.ws.length c6, .slice A7 exT3.ys.length c7] 62).alloc [.slice B5 exU3.hs.length d5, .slice B6 exU3.ws.length d6, .slice B7 exU3.ys.length d7] 62).alloc [.slice C5 exV3.hs.length e5, .slice C6 exV3.ws.length e6, .slice C7 exV3.ys.length e7] 62)
  have S := Lib.hid ((((S.out.call hb).alloc [.slice A5 exT3.hs.length c5, .slice A6 exT3.ws.length c6, .slice A7 exT3.ys.length c7] 62).alloc [.slice B5 exU3.hs.length d5, .slice B6 exU3.ws.length d6, .slice B7 exU3.ys.length d7] 62).alloc [.slice C5 exV3.hs.length e5, .slice C6 exV3.ws.length e6, .slice C7 exV3.ys.length e7] 62)
  clear hb
  have k0 := S.out.get 4 0 rfl rfl
  have k1 := S.out.get 4 1 rfl rfl
  have k2 := S.out.get 4 2 rfl rfl
  go_wp2_with fail
  clear k0 k1 k2
  refine (lowest_any _ exT _ ⟨_, _, rfl, HA1.out.below S.out.bel, HA2.out.below S.out.bel⟩).mono ?_
  rintro e w3 hr
  obtain ⟨lv, rfl, hl, hb⟩ := hr
  rw [low_ex] at hl ⊢
  obtain ⟨A8, c8, rfl, -, -, -⟩ := id hl.open_
  have HL := Lib.hid hl
  have T := Lib.hid (T.out.call hb)
  have S := Lib.hid (S.out.call hb)
  clear hb hl
  have k0 := S.out.get 2 0 rfl rfl
  have k1 := S.out.get 2 1 rfl rfl
  have k2 := S.out.get 2 2 rfl rfl
  go_wp2_with fail
  clear k0 k1 k2
  refine (lacksK_any _ exT3 _ (HT.out.below T.out.bel) (HN.out.below (bto HB.out S.out.bel)) ex3_val (by decide)).mono ?_
  rintro e w4 ⟨kv, d, rfl, hown, hbest, hb⟩
  rw [ex3_desc hbest] at hown
  obtain ⟨A9, c9, rfl⟩ := own_shape hown
  have HK := Lib.hid (show Ints w4 _ [2, 2, 1] from Ints.of_own hown)
  have HL := Lib.hid (HL.out.below hb)
  have S := Lib.hid (S.out.call hb)
  clear hb hown hbest T
  have U := Lib.hid ((St.init w4).alloc [I 10, I 13, I 20] 3)
  have S := Lib.hid (S.out.alloc [I 10, I 13, I 20] 3)
  go_wp2_with fail
  refine (sameInts_any _ _ [10, 13, 20] [10, 13, 20] _ (HL.out.below U.out.bel) (U.out.boxReads 0 rfl rfl (by decide)) (by decide) (by decide)).mono ?_
  rintro e w5 ⟨rfl, hb⟩
  have U := Lib.hid ((U.out.call hb).alloc [I 2, I 2, I 1] 3)
  have S := Lib.hid ((S.out.call hb).alloc [I 2, I 2, I 1] 3)
  clear hb
  go_wp2_with fail
  refine (sameInts_any _ _ [2, 2, 1] [2, 2, 1] _ (HK.out.below U.out.bel) (U.out.boxReads 0 rfl rfl (by decide)) (by decide) (by decide)).mono ?_
  rintro e w6 ⟨rfl, hb⟩
  have S := Lib.hid (S.out.call hb)
  clear hb
  go_wp2_with fail
  go_ret
  exact ⟨rfl, bto HB.out S.out.bel⟩
end Go.Proofs.YtldcehhhndlhdaaDoor
/- The plain law of TopDrawn. -/
namespace Go.Proofs.YtldcehhhndlhdaaDoor
open Go.RowKit Go.Sort Go.Shelf

theorem fill_val {t : BTown} {l : List Int} {each : Int} (hv : bVal t = true) (hl : l.length = t.ws.length) (hr : ∀ x ∈ l, 0 ≤ x ∧ x ≤ 99) (h5 : 5 ≤ each) : bVal (fillT t l each) = true := by
  obtain ⟨g1, g2, g3, g4, g5⟩ := bVal_spec hv
  have hw : (l.map fun x => x.tdiv each).length = t.ws.length := by rw [List.length_map]; exact hl
  refine bVal_ok g1 (by show (l.map fun x => x.tdiv each).length ≤ 5; omega) (fun x hx => inR_iff.2 (g3 x hx)) (fun x hx => ?_) (fun i hi => ?_)
  · obtain ⟨y, hy, rfl⟩ := List.mem_map.1 hx
    obtain ⟨h0, h9⟩ := hr y hy
    obtain ⟨a, b⟩ := tdiv_bd h0 h9 h5
    exact inR_iff.2 ⟨a, by omega⟩
  · have := g5 i hi
    unfold okY isH3 isW3 at this ⊢
    show (inR _ 0 ((t.hs.length : Int) - 1) && inR _ 0 (((l.map fun x => x.tdiv each).length : Int) - 1) && _) = true
    rw [hw]
    exact this
theorem tdiv_le {x y each : Int} (h0 : 0 ≤ x) (h : x ≤ y) (h5 : 5 ≤ each) : x.tdiv each ≤ y.tdiv each := by
  rw [Int.tdiv_eq_ediv_of_nonneg h0, Int.tdiv_eq_ediv_of_nonneg (by omega)]
  exact Int.ediv_le_ediv (by omega) h
theorem getD_map {l : List Int} {f : Int → Int} {i : Nat} (h : i < l.length) : (l.map f).getD i 0 = f (l.getD i 0) := by
  rw [List.getD_eq_getElem?_getD, List.getElem?_map, List.getD_eq_getElem?_getD, List.getElem?_eq_getElem h]
  rfl
theorem fill_wet {t : BTown} {l m : List Int} {each : Int} (hl : l.length = t.ws.length) (hm : m.length = t.ws.length) (h5 : 5 ≤ each) (h0 : ∀ x ∈ l, 0 ≤ x) (h : ∀ i, i < t.ws.length → l.getD i 0 ≤ m.getD i 0) : Bk.Wetter (fillT t l each).bt (fillT t m each).bt := by
  refine ⟨rfl, ?_, rfl, rfl, rfl, rfl, fun w hw => ?_⟩
  · show (m.map _).length = (l.map _).length
    rw [List.length_map, List.length_map, hl, hm]
  · have hw' : w < t.ws.length := by
      have : w < (l.map fun x => x.tdiv each).length := hw
      rw [List.length_map] at this
      omega
    show (l.map fun x => x.tdiv each).getD w 0 ≤ (m.map fun x => x.tdiv each).getD w 0
    rw [getD_map (by omega), getD_map (by omega)]
    refine tdiv_le ?_ (h w hw') h5
    rw [List.getD_eq_getElem?_getD, List.getElem?_eq_getElem (show w < l.length by omega), Option.getD_some]
    exact h0 _ (List.getElem_mem _)
theorem drawn_said {t : BTown} {l m : List Int} {each : Int} {d e : Nat → Int} (hv : bVal t = true) (hl : l.length = t.ws.length) (hm : m.length = t.ws.length) (h5 : 5 ≤ each) (h0 : ∀ x ∈ l, 0 ≤ x) (h : ∀ i, i < t.ws.length → l.getD i 0 ≤ m.getD i 0)
    (hd : Bk.Best (fillT t l each).bt d) (he : Bk.Best (fillT t m each).bt e) : earlierL (descL (Bk.lacksL (fillT t l each).bt d)) (descL (Bk.lacksL (fillT t m each).bt e)) = false := by
  rw [← earlier_eq]
  exact Bk.wetter_fair (fill_wet hl hm h5 h0 h) hd he (bVal_spec hv).1 (descL_perm _) (descL_perm _) (descL_sorted _)
/-- Levels that are a truth. -/
theorem tr_range {t : Twn} {l : List Int} (h : isTrB t l = true) : (l.length : Int) = t.wells ∧ ∀ x ∈ l, 0 ≤ x ∧ x ≤ 99 := by
  obtain ⟨h1, h2⟩ := isTrB_iff.1 h
  refine ⟨h1, fun x hx => ?_⟩
  obtain ⟨i, hi, rfl⟩ := List.getElem_of_mem hx
  have := h2.own i (by omega)
  rw [List.getD_eq_getElem?_getD, List.getElem?_eq_getElem hi, Option.getD_some] at this
  exact this
theorem low_le {t : Twn} {l : List Int} (h : isTrB t l = true) (h0 : openE t true = 0) {i : Nat} (hi : (i : Int) < t.wells) : (lowL t).getD i 0 ≤ l.getD i 0 ∧ l.getD i 0 ≤ (highL t).getD i 0 := by
  have := each_level h0 (isTrB_iff.1 h).2 hi
  rw [lowL_get hi, highL_get hi]
  exact this
theorem low_more {t : Twn} {s : Snd} (h0 : openE t true = 0) (h1 : openE (addS t s) true = 0) {i : Nat} (hi : (i : Int) < t.wells) : (lowL t).getD i 0 ≤ (lowL (addS t s)).getD i 0 := by
  rw [lowL_get hi, lowL_get (show (i : Int) < (addS t s).wells from hi)]
  exact ((nar_addS t s).lvl h1 h0 hi).1
end Go.Proofs.YtldcehhhndlhdaaDoor
/- Walks of the reference: Rising, Earlier. -/
namespace Go.Proofs.YtldcehhhndlhdaaDoor
open Go.RowKit Go.Sort

theorem up_not {l : List Int} {lo hi : Int} {k : Nat} (hk : k < l.length) (h : ¬ (inR (l.getD k 0) lo hi = true ∧ (0 < k → l.getD (k - 1) 0 < l.getD k 0))) : upB l lo hi = false := decide_eq_false fun H => h (H k hk)
set_option maxRecDepth 20000 in
set_option maxHeartbeats 1000000 in
theorem earlier_any (va vb : Value) (xs ys : List Int) (w : World) (hr : Ints w va xs) (hr' : Ints w vb ys) (hlen : xs.length ≤ 1000) (hlen' : ys.length ≤ 1000) :
    Calls Tryd.prog 30 #[va, vb] w fun e w' => e = .returned (.bool (earlierL xs ys)) ∧ Below w.heap.size w w' := by
  obtain ⟨A, c, rfl, hac, hcm, ha⟩ := id hr.open_
  obtain ⟨A', c', rfl, hac', hcm', ha'⟩ := id hr'.open_
  obtain ⟨-, hc3⟩ := hr.at_get rfl
  obtain ⟨-, hc4⟩ := hr'.at_get rfl
  have HA := Lib.hid hc3
  have HA' := Lib.hid hc4
  clear ha ha' hr hr' hc3 hc4
  go_enter Tryd.func30, Tryd.ntmps30
  go_wp2_with fail
  go_loopw [5] (fun i wr => ∃ k : Nat, k ≤ xs.length ∧ i = I k ∧ Hid (earlierL xs ys = earlierL (xs.drop k) (ys.drop k)) ∧ Hid (Below w.heap.size w wr)) (fun i _ => xs.length - (intOf i).toNat)
  case atStart => exact ⟨0, by omega, rfl, Lib.hid rfl, Lib.hid (Below.refl _ _)⟩
  case round =>
    obtain ⟨k, hk, rfl, hj, hbw⟩ := hrel
    by_cases hlt : k < xs.length
    · by_cases hlt' : k < ys.length
      · obtain ⟨b, o, rfl, hbl, hcell⟩ := HA.out (by omega)
        obtain ⟨b', o', rfl, hbl', hcell'⟩ := HA'.out (by omega)
        have z0 := hcell k hlt
        have z1 := hcell' k hlt'
        clear hcell hcell'
        have e1 := earlier_drop (xs := xs) (ys := ys) hlt hlt'
        have e2 := earlier_here (xs := xs) (ys := ys) hlt hlt'
        obtain ⟨x, hx⟩ : ∃ x, xs.getD k 0 = x := ⟨_, rfl⟩
        obtain ⟨y, hy⟩ : ∃ y, ys.getD k 0 = y := ⟨_, rfl⟩
        rw [hx] at z0 e1 e2
        rw [hy] at z1 e1 e2
        clear hx hy
        have Z0 := Lib.hid z0
        have Z1 := Lib.hid z1
        clear z0 z1
        have y0 := cell_regrown (keep_cell hbw.out Z0.out)
        have y1 := cell_regrown (keep_cell hbw.out Z1.out)
        have q1 : (k : Int) < (xs.length : Int) := by omega
        have q2 : (k : Int) < (ys.length : Int) := by omega
        by_cases he : x = y
        · have hq : (x != y) = false := by simp [he]
          have HE := Lib.hid (hj.out.trans (e1 he))
          clear he e1 e2
          go_wp2_with fail
          refine wp_region_ext (by kernel_rfl) (by kernel_rfl) ?_
          repeat (first | go_big_quiet_step (fail) | quiet_step (fail))
          refine wpQuiet_nil ?_
          clear y0 y1
          intro w1 hb1
          go_wp2_with fail
          go_roundw
          case rel => exact ⟨k + 1, by omega, by go_num, HE, Lib.hid (bto hbw.out hb1)⟩
          case measure => first | (simp [intOf]; done) | (simp [intOf]; omega)
        · have hq : (x != y) = true := by simp [he]
          have HE := Lib.hid (hj.out.trans (e2 he))
          clear he e1 e2
          go_wp2_with fail
          refine wp_region_ext (by kernel_rfl) (by kernel_rfl) ?_
          repeat (first | go_big_quiet_step (fail) | quiet_step (fail))
          refine wpQuiet_nil ?_
          clear y0 y1
          intro w1 hb1
          go_wp2_with fail
          have y0 := cell_regrown (keep_cell (bto hbw.out hb1) Z0.out)
          have y1 := cell_regrown (keep_cell (bto hbw.out hb1) Z1.out)
          refine wp_region_ext (by kernel_rfl) (by kernel_rfl) ?_
          repeat (first | go_big_quiet_step (fail) | quiet_step (fail))
          refine wpQuiet_nil ?_
          clear y0 y1
          intro w2 hb2
          go_wp2_with fail
          go_ret
          exact ⟨by rw [HE.out]; rfl, bto (bto hbw.out hb1) hb2⟩
      · have HE := Lib.hid (hj.out.trans (earlier_end (fun h => hlt' h.2)))
        go_wp2_with fail
        go_ret
        exact ⟨by rw [HE.out]; rfl, hbw.out⟩
    · have HE := Lib.hid (hj.out.trans (earlier_end (fun h => hlt h.1)))
      go_wp2_with fail
      go_ret
      exact ⟨by rw [HE.out]; rfl, hbw.out⟩

end Go.Proofs.YtldcehhhndlhdaaDoor
