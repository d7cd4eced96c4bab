/- Walks: the reference's Sounded; sounded, Example. -/
import Derived.Test.YtplbaijdnpfdgaaW20
import Derived.Test.YtplbaijdnpfdgaaPlain5
namespace Go.Proofs.Ytplbaijdnpfdgaa
open Go.RowKit Go.Sort

/-- A box reads as a slice of all its cells. -/
theorem St.boxReads {w0 w : World} {n : Nat} {L : List Item} (h : St w0 w n L) (i : Nat) {b : Nat} {cs : List Value} (hi : L[i]? = some (.box b cs)) {size m : Nat} (hm : cs.length = m * size) (hl : m ≤ 1000) : Reads w size (.slice (some ⟨b, 0, none⟩) m m) m cs := by
  refine ⟨hm, _, _, rfl, Nat.le_refl _, by omega, fun _ => ⟨b, 0, rfl, fun j u hu => ?_⟩⟩
  rw [Nat.zero_add]
  exact h.get i j hi hu

theorem sndCells_snoc (l : List Snd) (s : Snd) : sndCells (l ++ [s]) = sndCells l ++ [I s.well, I s.low, I s.high] := by simp [sndCells]
theorem slpCells_snoc (l : List Slp) (s : Slp) : slpCells (l ++ [s]) = slpCells l ++ [I s.a, I s.b, I s.low, I s.high] := by simp [slpCells]
theorem OwnTwn.base' {w : World} {base base' : Nat} {v : Value} {t : Twn} (h : OwnTwn w base v t) (hb : base' ≤ base) : OwnTwn w base' v t := by
  obtain ⟨sv, pv, rfl, h1, h2⟩ := h
  exact ⟨sv, pv, rfl, own_base' h1 hb, own_base' h2 hb⟩

set_option maxRecDepth 20000 in
set_option maxHeartbeats 4000000 in
theorem sounded_any (v : Value) (t : Twn) (s : Snd) (w : World) (hv : TwnAt w v t) (hlen : t.snd.length ≤ 1000) (hlen' : t.slp.length ≤ 1000) :
    Calls Try.prog 56 #[v, .agg #[I s.well, I s.low, I s.high]] w fun e w' => ∃ v', e = .returned v' ∧ OwnTwn w' w.heap.size v' (addS t s) ∧ Below w.heap.size w w' := by
  obtain ⟨sv, pv, rfl, hs, hp⟩ := hv
  have HSN := Lib.hid hs
  have HSP := Lib.hid hp
  obtain ⟨A1, c1, rfl, -, -, -⟩ := id hs.open_
  obtain ⟨A2, c2, rfl, -, -, -⟩ := id hp.open_
  clear hs hp
  have S := Lib.hid ((((St.init w).alloc [I t.wells, .slice A1 t.snd.length c1, .slice A2 t.slp.length c2] 25).alloc [I s.well, I s.low, I s.high] 57).alloc [I 0, .slice none 0 0, .slice none 0 0] 25)
  obtain ⟨i0, hi, hz0, hz1, hz2⟩ := info_parts (P := Try.prog) (e := 57) (z := .agg #[.int .i64 0, .int .i64 0, .int .i64 0]) (size := 3) (bytes := 24) (by kernel_rfl)
  have q0 := S.out.get 2 0 rfl rfl
  have q1 := S.out.get 2 1 rfl rfl
  have q2 := S.out.get 2 2 rfl rfl
  have p0 := S.out.get 1 0 rfl rfl
  have p1 := S.out.get 1 1 rfl rfl
  have p2 := S.out.get 1 2 rfl rfl
  have h63 : t.snd.length + 1 ≤ maxLen := by simp only [maxLen]; omega
  have hby : (t.snd.length + 1) * 24 ≤ 140737488355328 := by omega
  have h02 : 0 < 3 := by decide
  go_enter Try.func56, Try.ntmps56
  go_wp2_with fail
  clear q0 q1 q2 p0 p1 p2
  refine (copy_any _ t _ ⟨_, _, rfl, HSN.out.below S.out.bel, HSP.out.below S.out.bel⟩ hlen hlen').mono ?_
  rintro e w1 ⟨v', rfl, ⟨sv', pv', rfl, ho1, ho2⟩, hb⟩
  obtain ⟨Av, cv, rfl⟩ := own_shape ho1
  obtain ⟨Aw, cw, rfl⟩ := own_shape ho2
  have S := Lib.hid ((S.out.take2 hb ho1 ho2 (by decide)).alloc [I t.wells, .slice Av t.snd.length cv, .slice Aw t.slp.length cw] 25)
  clear hb ho1 ho2
  have k0 := S.out.get 0 1 rfl rfl
  have k1 := S.out.get 4 0 rfl rfl
  have k2 := S.out.get 4 1 rfl rfl
  have k3 := S.out.get 4 2 rfl rfl
  have T := Lib.hid (S.out.alloc [I s.well, I s.low, I s.high] 57)
  go_wp2_with (at_builtin; refine wpList_append_St T.out 2 rfl _ _ 22 rfl 57 i0 (.agg #[.int .i64 0, .int .i64 0, .int .i64 0]) 3 24 Try.underlying22 hi hz0 hz1 hz2 rfl h02 rfl rfl _ 1 [I s.well, I s.low, I s.high] rfl (T.out.boxReads 0 rfl rfl (by omega)) (snds_one [s]) h63 hby ?_; intro v5 w5 hS5; obtain ⟨A5, c5, rfl⟩ := own_shape (hS5.own 2 rfl); have S := Lib.hid hS5; clear hS5 k0 k1 k2 k3; have u0 := S.out.get 1 1 rfl rfl; have u1 := S.out.free 1 1 rfl; have S2 := Lib.hid (S.out.set 1 1 (.slice A5 (t.snd.length + 1) c5) rfl); have u2 := S2.out.get 1 0 rfl rfl; have u3 := S2.out.get 1 1 rfl rfl; have u4 := S2.out.get 1 2 rfl rfl; have u5 := S2.out.get 4 0 rfl rfl; have u6 := S2.out.get 4 1 rfl rfl; have u7 := S2.out.get 4 2 rfl rfl; have u8 := S2.out.free 4 0 rfl; have u9 := S2.out.free 4 1 rfl; have ua := S2.out.free 4 2 rfl; have S3 := Lib.hid (((S2.out.set 4 0 (I t.wells) rfl).set 4 1 (.slice A5 (t.snd.length + 1) c5) rfl).set 4 2 (.slice Aw t.slp.length cw) rfl); have r0 := S3.out.get 4 0 rfl rfl; have r1 := S3.out.get 4 1 rfl rfl; have r2 := S3.out.get 4 2 rfl rfl)
  refine bodyPost_ret (v := .agg #[I t.wells, .slice A5 (t.snd.length + 1) c5, .slice Aw t.slp.length cw]) (by simp [results, Try.results56, go_sem, r0, r1, r2]) rfl ⟨_, rfl, ⟨_, _, rfl, ?_, S3.out.own 3 rfl⟩, S3.out.bel⟩
  have h := S3.out.own 2 rfl
  simpa [addS, sndCells_snoc] using h

set_option maxRecDepth 20000 in
set_option maxHeartbeats 4000000 in
theorem lSounded_any (v : Value) (t : Twn) (well n : Int) (w : World) (hv : TwnAt w v t) (hlen : t.snd.length ≤ 1000) (hlen' : t.slp.length ≤ 1000) :
    Calls Try.prog 35 #[v, I well, I n] w fun e w' => ∃ v', e = .returned v' ∧ OwnTwn w' w.heap.size v' (addS t ⟨well, n, n⟩) ∧ Below w.heap.size w w' := by
  obtain ⟨sv, pv, rfl, hs, hp⟩ := hv
  have HSN := Lib.hid hs
  have HSP := Lib.hid hp
  obtain ⟨A1, c1, rfl, -, -, -⟩ := id hs.open_
  obtain ⟨A2, c2, rfl, -, -, -⟩ := id hp.open_
  clear hs hp
  have S := Lib.hid (((St.init w).alloc [I t.wells, .slice A1 t.snd.length c1, .slice A2 t.slp.length c2] 25).alloc [I 0, .slice none 0 0, .slice none 0 0] 25)
  have q0 := S.out.get 1 0 rfl rfl
  have q1 := S.out.get 1 1 rfl rfl
  have q2 := S.out.get 1 2 rfl rfl
  go_enter Try.func35, Try.ntmps35
  go_wp2_with fail
  clear q0 q1 q2
  refine (sounded_any _ t ⟨well, n, n⟩ _ ⟨_, _, rfl, HSN.out.below S.out.bel, HSP.out.below S.out.bel⟩ hlen hlen').mono ?_
  rintro e w1 ⟨v', rfl, ⟨sv', pv', rfl, ho1, ho2⟩, hb⟩
  obtain ⟨Av, cv, rfl⟩ := own_shape ho1
  obtain ⟨Aw, cw, rfl⟩ := own_shape ho2
  have S := Lib.hid (S.out.take2 hb ho1 ho2 (by decide))
  clear hb ho1 ho2
  have u5 := S.out.get 2 0 rfl rfl
  have u6 := S.out.get 2 1 rfl rfl
  have u7 := S.out.get 2 2 rfl rfl
  have u8 := S.out.free 2 0 rfl
  have u9 := S.out.free 2 1 rfl
  have ua := S.out.free 2 2 rfl
  have S3 := Lib.hid (((S.out.set 2 0 (I (addS t ⟨well, n, n⟩).wells) rfl).set 2 1 (.slice Av (addS t ⟨well, n, n⟩).snd.length cv) rfl).set 2 2 (.slice Aw (addS t ⟨well, n, n⟩).slp.length cw) rfl)
  have r0 := S3.out.get 2 0 rfl rfl
  have r1 := S3.out.get 2 1 rfl rfl
  have r2 := S3.out.get 2 2 rfl rfl
  go_wp2_with fail
  refine bodyPost_ret (v := .agg #[I (addS t ⟨well, n, n⟩).wells, .slice Av (addS t ⟨well, n, n⟩).snd.length cv, .slice Aw (addS t ⟨well, n, n⟩).slp.length cw]) (by simp [results, Try.results35, go_sem, r0, r1, r2]) rfl ⟨_, rfl, ⟨_, _, rfl, S3.out.own 0 rfl, S3.out.own 1 rfl⟩, S3.out.bel⟩

def exT : Twn := ⟨3, [⟨0, 10, 12⟩, ⟨2, 20, 30⟩], [⟨0, 1, 3, 5⟩, ⟨1, 2, 4, 8⟩]⟩
def exQ : Twn := addS exT ⟨1, 18, 19⟩
set_option maxRecDepth 20000 in
set_option maxHeartbeats 4000000 in
theorem example_any (w : World) :
    Calls Try.prog 67 #[] w fun e w' => ∃ v1 v2, e = .returned (.tuple #[v1, v2]) ∧ TwnAt w' v1 exT ∧ TwnAt w' v2 exQ ∧ Below w.heap.size w w' := by
  have S := Lib.hid (((St.init w).alloc [I 0, .slice none 0 0, .slice none 0 0] 25).alloc [I 0, .slice none 0 0, .slice none 0 0] 25)
  go_enter Try.func67, Try.ntmps67
  have S := Lib.hid (((((St.init w).alloc [I 3, .slice (some ⟨w.heap.size + 1 + 1, 0, none⟩) 2 2, .slice (some ⟨w.heap.size + 1 + 1 + 1, 0, none⟩) 2 2] 25).alloc [I 0, .slice none 0 0, .slice none 0 0] 25).alloc [I 0, I 10, I 12, I 2, I 20, I 30] 57).alloc [I 0, I 1, I 3, I 5, I 1, I 2, I 4, I 8] 47)
  go_wp2_with fail
  refine wp_region_treeB (.node [0, 1, 2] [3] (fun _ => .last [] [4, 5])) 4 (by kernel_rfl) (by kernel_rfl) ?_
  intro KQ hKQ w5 hb
  have S := Lib.hid (S.out.call hb)
  clear hb
  have k0 := cell_regrown (S.out.get 3 0 rfl rfl)
  have k1 := cell_regrown (S.out.get 3 1 rfl rfl)
  have k2 := cell_regrown (S.out.get 3 2 rfl rfl)
  refine treeB_node ?_
  simp only [opsAt, List.filterMap_cons, List.filterMap_nil, List.getElem?_toArray, List.getElem?_cons_succ, List.getElem?_cons_zero]
  repeat (first | go_big_quiet_step (fail) | quiet_step (fail))
  refine wpQuiet_nil ?_
  refine all_one ?_
  intro K hK
  refine loud_op rfl rfl ?_
  go_simp
  have hr : TwnAt w5 (.agg #[I 3, .slice (some ⟨w.heap.size + 1 + 1, 0, none⟩) 2 2, .slice (some ⟨w.heap.size + 1 + 1 + 1, 0, none⟩) 2 2]) exT := ⟨_, _, rfl, S.out.boxReads 1 rfl rfl (by omega), S.out.boxReads 0 rfl rfl (by omega)⟩
  refine (sounded_any _ exT ⟨1, 18, 19⟩ _ hr (by decide) (by decide)).mono ?_
  rintro e w6 ⟨v', rfl, ⟨rv', sv', rfl, ho1, ho2⟩, hb⟩
  obtain ⟨Av, cv, rfl⟩ := own_shape ho1
  obtain ⟨Aw, cw, rfl⟩ := own_shape ho2
  have S := Lib.hid (S.out.take2 hb ho1 ho2 (by decide))
  refine hK _ _ hb ?_
  clear hK K hb ho1 ho2 hr k0 k1 k2
  refine treeB_last ?_
  simp only [opsAt, List.filterMap_cons, List.filterMap_nil, List.getElem?_toArray, List.getElem?_cons_succ, List.getElem?_cons_zero]
  refine wpQuiet_nil ?_
  have u0 := S.out.get 5 0 rfl rfl
  have u1 := S.out.get 5 1 rfl rfl
  have u2 := S.out.get 5 2 rfl rfl
  have u3 := S.out.free 5 0 rfl
  have u4 := S.out.free 5 1 rfl
  have u5 := S.out.free 5 2 rfl
  have S1 := Lib.hid (((S.out.set 5 0 (I 3) rfl).set 5 1 (.slice (some ⟨w.heap.size + 1 + 1, 0, none⟩) 2 2) rfl).set 5 2 (.slice (some ⟨w.heap.size + 1 + 1 + 1, 0, none⟩) 2 2) rfl)
  have v0 := S1.out.get 4 0 rfl rfl
  have v1 := S1.out.get 4 1 rfl rfl
  have v2 := S1.out.get 4 2 rfl rfl
  have v3 := S1.out.free 4 0 rfl
  have v4 := S1.out.free 4 1 rfl
  have v5 := S1.out.free 4 2 rfl
  have S2 := Lib.hid (((S1.out.set 4 0 (I (addS exT ⟨1, 18, 19⟩).wells) rfl).set 4 1 (.slice Av (addS exT ⟨1, 18, 19⟩).snd.length cv) rfl).set 4 2 (.slice Aw (addS exT ⟨1, 18, 19⟩).slp.length cw) rfl)
  have r0 := S2.out.get 5 0 rfl rfl
  have r1 := S2.out.get 5 1 rfl rfl
  have r2 := S2.out.get 5 2 rfl rfl
  have r3 := S2.out.get 4 0 rfl rfl
  have r4 := S2.out.get 4 1 rfl rfl
  have r5 := S2.out.get 4 2 rfl rfl
  go_wp2_with fail
  refine bodyPost_ret (v := .tuple #[.agg #[I 3, .slice (some ⟨w.heap.size + 1 + 1, 0, none⟩) 2 2, .slice (some ⟨w.heap.size + 1 + 1 + 1, 0, none⟩) 2 2], .agg #[I (addS exT ⟨1, 18, 19⟩).wells, .slice Av (addS exT ⟨1, 18, 19⟩).snd.length cv, .slice Aw (addS exT ⟨1, 18, 19⟩).slp.length cw]]) (by simp [results, Try.results67, go_sem, r0, r1, r2, r3, r4, r5]) rfl ⟨_, _, rfl, ⟨_, _, rfl, S2.out.boxReads 3 rfl rfl (by omega), S2.out.boxReads 2 rfl rfl (by omega)⟩, ⟨_, _, rfl, Reads.of_own (S2.out.own 0 rfl), Reads.of_own (S2.out.own 1 rfl)⟩, S2.out.bel⟩

end Go.Proofs.Ytplbaijdnpfdgaa
