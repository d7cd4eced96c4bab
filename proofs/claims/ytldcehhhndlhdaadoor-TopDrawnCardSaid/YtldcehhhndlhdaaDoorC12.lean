/- Walks: ends, Lowest, Highest. -/
import Derived.Test.YtldcehhhndlhdaaDoorC11
import Derived.Test.YtldcehhhndlhdaaDoorC9
namespace Go.Proofs.YtldcehhhndlhdaaDoor
open Go.RowKit Go.Sort Go.Shelf
attribute [local go_sem] Oper.semAt_some

/-- A list of numbers, and an error. -/
def RetL (w : World) (l : List Int) (err : Int) (e : Ending) (w' : World) : Prop := ∃ v, e = .returned (.tuple #[v, I err]) ∧ Ints w' v l ∧ Below w.heap.size w w'
theorem ints_nil (w : World) : Ints w (.slice none 0 0) [] := ⟨rfl, none, 0, rfl, by simp, by omega, fun h => absurd h (by simp)⟩
def endsP (t : Twn) (g : Sp → Int) : List Int × Int := if openE t true = 0 then ((List.range t.wells.toNat).map fun w => g (lvl (closeM (baseM t)) w), 0) else ([], openE t true)
theorem tight_ok {t : Twn} {ms : List Int} (hv : Vl t) (h : Tight t ms) (hl : ms.length = 49) (hi : Iso t.wells ms) : Okm ms := by
  refine ⟨hl, fun i hi7 => ?_⟩
  have h6 := hv.w6
  by_cases ha : act t.wells i
  · have h1 := h.fin i 6 ha (.inr rfl)
    have h2 := h.fin 6 i (.inr rfl) ha
    omega
  · have hne : i ≠ 6 := fun e => ha (.inr e)
    have h1 := hi i 6 hi7 (by omega) hne (fun h => ha h.1)
    have h2 := hi 6 i (by omega) hi7 (fun e => hne e.symm) (fun h => ha h.2)
    omega
/-- The closed bounds of a town that has a truth are small. -/
theorem open_ok {t : Twn} {is : Bool} (h : openE t is = 0) : Okm (closeM (baseM t)) ∧ Sml (closeM (baseM t)) t.wells.toNat := by
  obtain ⟨hv, -, -⟩ := openE_zero h
  have hs := baseM_says hv
  have ht := open_tight h
  refine ⟨tight_ok hv ht (closeBase_len t) (Iso.closeK hs.bd.len hs.iso 7 (by omega)), fun i hi => ?_⟩
  have h1 := ht.fin i 6 (.inl (by omega)) (.inr rfl)
  have h2 := ht.fin 6 i (.inr rfl) (.inl (by omega))
  simp only [lvl]
  omega

set_option maxRecDepth 20000 in
set_option maxHeartbeats 1000000 in
theorem low1_any (s : Sp) (w : World) :
    Calls Tryd.prog 51 #[s.val] w fun e w' => e = .returned (I s.low) ∧ Below w.heap.size w w' := by
  have S := Lib.hid (show St w (w.alloc (.cells #[I s.low, I s.high] 47)) (w.heap.size + 1) [.box w.heap.size [I s.low, I s.high]] from (St.init w).alloc [I s.low, I s.high] 47)
  have q0 := S.out.get 0 0 rfl rfl
  have q1 := S.out.get 0 1 rfl rfl
  go_enter Tryd.func51, Tryd.ntmps51
  go_wp2_with fail
  go_ret
  exact ⟨rfl, S.out.bel⟩

set_option maxRecDepth 20000 in
set_option maxHeartbeats 1000000 in
theorem high1_any (s : Sp) (w : World) :
    Calls Tryd.prog 52 #[s.val] w fun e w' => e = .returned (I s.high) ∧ Below w.heap.size w w' := by
  have S := Lib.hid (show St w (w.alloc (.cells #[I s.low, I s.high] 47)) (w.heap.size + 1) [.box w.heap.size [I s.low, I s.high]] from (St.init w).alloc [I s.low, I s.high] 47)
  have q0 := S.out.get 0 0 rfl rfl
  have q1 := S.out.get 0 1 rfl rfl
  go_enter Tryd.func52, Tryd.ntmps52
  go_wp2_with fail
  go_ret
  exact ⟨rfl, S.out.bel⟩

set_option maxRecDepth 100000 in
set_option maxHeartbeats 4000000 in
theorem endsLow_any (v : Value) (t : Twn) (w : World) (hv : TwnAt w v t) :
    Calls Tryd.prog 50 #[v, .func (.func 51) #[] #[]] w fun e w' => RetL w (endsP t Sp.low).1 (endsP t Sp.low).2 e w' := by
  obtain ⟨sv, pv, rfl, hs, hp⟩ := hv
  have HSN := Lib.hid hs
  have HSP := Lib.hid hp
  obtain ⟨A1, c1, rfl, -, -, -⟩ := id hs.open_
  obtain ⟨A2, c2, rfl, -, -, -⟩ := id hp.open_
  clear hs hp
  have S := Lib.hid (show St w ((w.alloc (.cells #[I t.wells, .slice A1 t.snd.length c1, .slice A2 t.slp.length c2] 25)).alloc (.cells #[.func (.func 51) #[] #[]] 106)) (w.heap.size + 1 + 1) [.box (w.heap.size + 1) [.func (.func 51) #[] #[]], .box w.heap.size [I t.wells, .slice A1 t.snd.length c1, .slice A2 t.slp.length c2]] from ((St.init w).alloc [I t.wells, .slice A1 t.snd.length c1, .slice A2 t.slp.length c2] 25).alloc [.func (.func 51) #[] #[]] 106)
  by_cases h : openE t true = 0
  · have HE := Lib.hid (show endsP t Sp.low = _ from if_pos h)
    obtain ⟨hvl, -, -⟩ := openE_zero h
    have hNW := hvl.w0
    have hN6 := hvl.w6
    obtain ⟨N, hN⟩ := Int.eq_ofNat_of_zero_le hNW
    have hok := open_ok h
    rw [hN] at hN6 S
    have hn6 : N ≤ 6 := by omega
    rw [show t.wells.toNat = N by omega] at HE hok
    have HOK := Lib.hid hok
    have HN := Lib.hid hN
    have HO := Lib.hid h
    clear hvl hNW hok h
    rw [hN]
    clear hN
    have q0 := S.out.get 1 0 rfl rfl
    have q1 := S.out.get 1 1 rfl rfl
    have q2 := S.out.get 1 2 rfl rfl
    refine calls_of_marks Tryd.func50 rfl ?_
    simp only [Tryd.ntmps50, List.size_toArray, List.length_cons, List.length_nil, Nat.reduceAdd, Nat.reduceSub, Array.replicate_succ, Array.replicate_zero, List.push_toArray, List.append_toArray, List.nil_append, List.cons_append]
    go_wp2_with fail
    clear q0 q1 q2
    refine (open_yes _ t true _ ⟨_, _, by rw [HN.out], HSN.out.below S.out.bel, HSP.out.below S.out.bel⟩ HO.out).mono ?_
    rintro e wo hr
    obtain ⟨B, rfl, hB, hm, hb⟩ := hr
    have S := Lib.hid (S.out.takeM hb hB hm)
    have hwo := S.out.lt 1 rfl
    clear hB hb hm
    have S := Lib.hid (S.out.alloc [.slice none 0 0] 53)
    have q0 := S.out.get 3 0 rfl rfl
    go_wp2_with fail
    refine (levels_any B N _).mono ?_
    rintro e w1 ⟨rfl, rfl⟩
    have S := Lib.hid ((S.out.alloc [.pointer (some ⟨B, 0, none⟩)] 109).alloc [I (N : Nat)] 3)
    clear q0
    go_wp2_with fail
    obtain ⟨WB, hWB⟩ : ∃ WB, ((wo.alloc (.cells #[.slice none 0 0] 53)).alloc (.cells #[.pointer (some ⟨B, 0, none⟩)] 109)).alloc (.cells #[I (N : Nat)] 3) = WB := ⟨_, rfl⟩
    have hsz : wo.heap.size + 1 + 1 + 1 = WB.heap.size := by rw [← hWB]; simp
    rw [hWB] at S ⊢
    clear hWB
    have S := Lib.hid (S.out.fix.nil 3 1)
    have y0 := S.out.get 1 0 rfl rfl
    have y1 := S.out.get 2 0 rfl rfl
    have hbs := S.out.bel.size
    have hl0 := S.out.lt 1 rfl
    have hmm := S.out.mat 4 rfl
    have hBw := hmm.lt
    refine (wpIn_wide (n := 5)).1 ?_
    refine wpIn_rangeFunc_R (F := Fence.wide) rfl (by omega) (gf := 94) (lb := #[.pointer (some ⟨wo.heap.size + 1 + 1, 0, none⟩), .pointer (some ⟨wo.heap.size + 1, 0, none⟩)]) rfl trivial (enters_of Tryd.func94 (by kernel_rfl) rfl)
      (levels_seq WB _ _ B N _ hn6 HOK.out.1 y0 y1 hmm) (fun h k => h.trans k) (KpK.putObj (by intro k hk; simp at hk; omega)) (Below.refl _ _) (fun _ => rfl)
      (fun pre W => (Hid (pre = List.range pre.length) ∧ pre.length ≤ N) ∧ ∃ v, St w W W.heap.size [.own 3 1 v pre.length ((pre.map fun x => Sp.low (lvl (closeM (baseM t)) x)).map I), .box (wo.heap.size + 1 + 1) [I (N : Nat)], .box (wo.heap.size + 1) [.pointer (some ⟨B, 0, none⟩)], .box wo.heap.size [v], mat B (closeM (baseM t)), .box (w.heap.size + 1) [.func (.func 51) #[] #[]], .box w.heap.size [I (N : Nat), .slice A1 t.snd.length c1, .slice A2 t.slp.length c2]])
      (fun _ _ _ => False) ?hI (fun _ _ _ _ _ hs _ _ => hs) (fun _ _ => trivial) ⟨⟨Lib.hid rfl, by simp⟩, _, S.out⟩
      (fun pre x a' W => ((Hid (pre = List.range pre.length) ∧ pre.length ≤ N) ∧ Hid (x = pre.length) ∧ x < N) ∧ ∃ v Bx, St w W W.heap.size (.box Bx [I (lvl (closeM (baseM t)) x).low, I (lvl (closeM (baseM t)) x).high] :: [.own 3 1 v pre.length ((pre.map fun x => Sp.low (lvl (closeM (baseM t)) x)).map I), .box (wo.heap.size + 1 + 1) [I (N : Nat)], .box (wo.heap.size + 1) [.pointer (some ⟨B, 0, none⟩)], .box wo.heap.size [v], mat B (closeM (baseM t)), .box (w.heap.size + 1) [.func (.func 51) #[] #[]], .box w.heap.size [I (N : Nat), .slice A1 t.snd.length c1, .slice A2 t.slp.length c2]]) ∧
        a' = { tmps := #[.agg #[I (N : Nat), .slice A1 t.snd.length c1, .slice A2 t.slp.length c2], .func (.func 51) #[] #[], .pointer (some ⟨w.heap.size, 0, none⟩), .pointer (some ⟨w.heap.size + 1, 0, none⟩), .slice none 0 0, I 0, .pointer (some ⟨B, 0, none⟩), I 0, .pointer (some ⟨wo.heap.size, 0, none⟩), undef, .pointer (some ⟨Bx, 0, none⟩), .tuple #[.pointer (some ⟨B, 0, none⟩), I 0], .agg #[I (N : Nat), .slice A1 t.snd.length c1, .slice A2 t.slp.length c2], .tuple #[.pointer (some ⟨B, 0, none⟩), I 0], .pointer (some ⟨B, 0, none⟩), I 0, I 0, .bool false, undef, .pointer (some ⟨B, 0, none⟩), .pointer (some ⟨w.heap.size, 0, none⟩), I (N : Nat), .func (.func 94) #[] #[.pointer (some ⟨wo.heap.size + 1 + 1, 0, none⟩), .pointer (some ⟨wo.heap.size + 1, 0, none⟩)], I (x : Nat), (lvl (closeM (baseM t)) x).val, undef, undef, undef, undef, undef, undef, undef], defers := [] }) ?hAx ?assign ?body ?done ?stop
    case hI =>
      rintro s A B' row ⟨hs, v, hv⟩ hg hr
      exact ⟨hs, v, hv.other hg hr (by omega) (by simp [Item.cel, mat, Obj.isCells])⟩
    case hAx =>
      rintro pre x a' _ A B' row ⟨h1, v, Bx, h2, h3⟩ hg hr
      exact ⟨h1, v, Bx, h2.other hg hr (by omega) (by simp [Item.cel, mat, Obj.isCells]), h3⟩
    case assign =>
      rintro l pre x W K ⟨h1, v, h2⟩ ⟨hR, hRN⟩ hK
      have S2 := Lib.hid (h2.alloc [I (lvl (closeM (baseM t)) x).low, I (lvl (closeM (baseM t)) x).high] 47)
      have hKs : ∀ k ∈ [wo.heap.size + 1 + 1, wo.heap.size + 1, B], k < W.heap.size := by
        intro k hk
        have := h2.lt 1 rfl
        have := (h2.mat 4 rfl).lt
        simp at hk
        omega
      have HR := Lib.hid hR
      clear hR
      simp only [encL]
      gi_wp2
      exact hK _ _ ((KeepsOthers.alloc _ _).from _) (KpK.below ((Below.refl _ _).alloc (Nat.le_refl _) _) hKs) ⟨h1, v, S2.out.tail.fix⟩ ⟨⟨h1, HR.out, hRN⟩, v, W.heap.size, S2.out.fix, rfl⟩
    case body =>
      rintro l pre x a' W hl ⟨r, hr⟩ - ⟨⟨⟨h1, h1'⟩, h2, h3⟩, v, Bx, hS, rfl⟩
      have S := Lib.hid hS
      clear hS
      have hKs : ∀ k ∈ [wo.heap.size + 1 + 1, wo.heap.size + 1, B], k < W.heap.size := by
        intro k hk
        have := S.out.lt 2 rfl
        have := (S.out.mat 5 rfl).lt
        simp at hk
        omega
      have HRG := Lib.hid (show pre ++ [x] = List.range (pre ++ [x]).length by rw [List.length_append, List.length_singleton, List.range_succ, h2.out, ← h1.out])
      have HLN := Lib.hid (show (pre ++ [x]).length ≤ N by simp; have := h2.out; omega)
      have h63 : pre.length + 1 ≤ maxLen := by simp only [maxLen]; omega
      have hby : (pre.length + 1) * 8 ≤ 140737488355328 := by omega
      obtain ⟨i0, hi, hz0, hz1, hz2⟩ := info_parts Tryd.info3
      have h02 : 0 < 1 := by decide
      obtain ⟨A, c, rfl⟩ := own_shape (S.out.own 1 rfl)
      clear hl hr
      gi_wp2_with fail
      refine wpIn_region_treeB (.node [0, 1, 2] [3] (fun _ => .node [] [4] (fun _ => .last [] [5, 6]))) 5 (by kernel_rfl) (by kernel_rfl) ?_
      intro KQ hKQ w2 hb
      have HB := Lib.hid hb
      have S := Lib.hid (S.out.call hb)
      clear hb
      have k0 := cell_regrown (S.out.get 0 0 rfl rfl)
      have k1 := cell_regrown (S.out.get 0 1 rfl rfl)
      have k2 := cell_regrown (S.out.get 4 0 rfl rfl)
      have k3 := cell_regrown (S.out.get 6 0 rfl rfl)
      refine treeB_node ?_
      simp only [opsAt, List.filterMap_cons, List.filterMap_nil, List.getElem?_toArray, List.getElem?_cons_succ, List.getElem?_cons_zero]
      repeat (first | go_big_quiet_step (fail) | quiet_step (fail))
      refine wpQuiet_nil ?_
      refine all_one ?_
      intro K hK
      refine loud_op rfl rfl ?_
      go_simp
      refine (low1_any (lvl (closeM (baseM t)) x) _).mono ?_
      rintro e w3 ⟨rfl, hb⟩
      have HBR := Lib.hid hb
      have HB2 := Lib.hid (bto HB.out hb)
      have S := Lib.hid (S.out.call hb)
      refine hK _ _ hb ?_
      clear hK K hb k0 k1 k2 k3
      refine treeB_node ?_
      simp only [opsAt, List.filterMap_nil]
      refine wpQuiet_nil ?_
      refine all_one ?_
      intro K hK
      refine loud_op rfl rfl ?_
      go_simp
      refine hK _ _ (HBR.out.alloc HBR.out.size _) ?_
      have S := Lib.hid (S.out.alloc [I (Sp.low (lvl (closeM (baseM t)) x))] 3)
      have HB3 := Lib.hid (HB2.out.alloc HB2.out.size (.cells #[I (Sp.low (lvl (closeM (baseM t)) x))] 3))
      clear hK K
      refine treeB_last ?_
      simp only [opsAt, List.filterMap_cons, List.filterMap_nil, List.getElem?_toArray, List.getElem?_cons_succ, List.getElem?_cons_zero]
      refine wpQuiet_nil ?_
      refine wpList_append_src _ rfl _ _ 53 rfl w.heap.size 3 i0 (.int .i64 0) 1 8 Tryd.underlying53 hi hz0 hz1 hz2 rfl h02 _ pre.length _ rfl (S.out.own 2 rfl) _ 1 [I (Sp.low (lvl (closeM (baseM t)) x))] rfl (reads_box1 (S.out.get 0 0 rfl rfl)) (ints_one [Sp.low (lvl (closeM (baseM t)) x)]) h63 hby S.out.bel.size ?_
      intro v' w5 hown hg hv
      have S2 := Lib.hid (S.out.grown 2 rfl hown hg hv)
      have HKO := Lib.hid ((ko_below HB3.out).trans (S.out.ko 2 rfl trivial hg))
      have HKK := Lib.hid ((KpK.below HB3.out hKs).trans (KpK.grown hg (fun k hk => Nat.lt_of_lt_of_le (hKs k hk) HB3.out.size) (fun k hk => by
        simp only [List.mem_cons, List.not_mem_nil, or_false] at hk
        rcases hk with rfl | rfl | rfl
        · exact S.out.apart' 2 3 rfl rfl (by omega) rfl
        · exact S.out.apart' 2 4 rfl rfl (by omega) rfl
        · exact S.out.apart' 2 6 rfl rfl (by omega) rfl)))
      clear hg hv
      obtain ⟨A', c', rfl⟩ := own_shape hown
      have q0 := S2.out.get 5 0 rfl rfl
      have z0 := S2.out.free 5 0 rfl
      have hne : ∀ k ∈ [wo.heap.size + 1 + 1, wo.heap.size + 1, B], k ≠ wo.heap.size := (by
        intro k hk e
        simp only [List.mem_cons, List.not_mem_nil, or_false] at hk
        rcases hk with rfl | rfl | rfl
        · omega
        · omega
        · exact S2.out.apart' 6 5 rfl rfl (by omega) rfl (by rw [← e]; rfl))
      have HNE := Lib.hid hne
      clear hne hown
      go_wp2_with fail
      have S3 := Lib.hid (S2.out.set 5 0 (.slice A' (pre.length + 1) c') rfl)
      have HKO2 := Lib.hid (HKO.out.trans (KeepsOthers.setCell w5 ⟨wo.heap.size, 0, none⟩ (.slice A' (pre.length + 1) c')))
      have HKK2 := Lib.hid (HKK.out.trans (KpK.setCell (W := w5) (a := ⟨wo.heap.size, 0, none⟩) (v := .slice A' (pre.length + 1) c') HNE.out))
      exact ⟨HKO2.out.from _, HKK2.out, ⟨HRG, HLN.out⟩, _, by simpa [List.map_append] using S3.out.fix.tail.tail⟩
    case done =>
      rintro D xs W hD rfl ⟨⟨h1, h1'⟩, v, hS⟩ hK
      obtain ⟨A, c, rfl⟩ := own_shape (hS.own 0 rfl)
      have q0 := hS.get 3 0 rfl rfl
      go_wp2_with fail
      refine ⟨by simp, .inl ⟨_, _, rfl, run_takeDeferred hK, ?_⟩⟩
      have S3 := hS.putD (D := D) (by have := HN.out; omega) hK rfl (.deferred none) (by simp [Item.cel, mat, Obj.isCells])
      refine ⟨_, results_tmp2 rfl _ _ _, _, by rw [HE.out]; rfl, ?_, S3.bel⟩
      rw [HE.out]
      have hi := S3.own 0 rfl
      simp only [List.length_range] at hi ⊢
      exact Ints.of_own hi
    case stop =>
      rintro D c pre W _ _ h _
      exact h.elim
  · have HE := Lib.hid (show endsP t Sp.low = _ from if_neg h)
    have HO := Lib.hid h
    clear h
    have q0 := S.out.get 1 0 rfl rfl
    have q1 := S.out.get 1 1 rfl rfl
    have q2 := S.out.get 1 2 rfl rfl
    go_enter Tryd.func50, Tryd.ntmps50
    go_wp2_with fail
    clear q0 q1 q2
    refine (open_no _ t true _ ⟨_, _, rfl, HSN.out.below S.out.bel, HSP.out.below S.out.bel⟩ HO.out).mono ?_
    rintro e w1 ⟨rfl, hb⟩
    have S := Lib.hid (S.out.call hb)
    have hne := bne_iff_ne.2 HO.out
    clear hb
    go_wp2_with fail
    go_ret2
    exact ⟨_, by rw [HE.out]; rfl, by rw [HE.out]; exact ints_nil _, S.out.bel⟩

set_option maxRecDepth 100000 in
set_option maxHeartbeats 4000000 in
theorem endsHigh_any (v : Value) (t : Twn) (w : World) (hv : TwnAt w v t) :
    Calls Tryd.prog 50 #[v, .func (.func 52) #[] #[]] w fun e w' => RetL w (endsP t Sp.high).1 (endsP t Sp.high).2 e w' := by
  obtain ⟨sv, pv, rfl, hs, hp⟩ := hv
  have HSN := Lib.hid hs
  have HSP := Lib.hid hp
  obtain ⟨A1, c1, rfl, -, -, -⟩ := id hs.open_
  obtain ⟨A2, c2, rfl, -, -, -⟩ := id hp.open_
  clear hs hp
  have S := Lib.hid (show St w ((w.alloc (.cells #[I t.wells, .slice A1 t.snd.length c1, .slice A2 t.slp.length c2] 25)).alloc (.cells #[.func (.func 52) #[] #[]] 106)) (w.heap.size + 1 + 1) [.box (w.heap.size + 1) [.func (.func 52) #[] #[]], .box w.heap.size [I t.wells, .slice A1 t.snd.length c1, .slice A2 t.slp.length c2]] from ((St.init w).alloc [I t.wells, .slice A1 t.snd.length c1, .slice A2 t.slp.length c2] 25).alloc [.func (.func 52) #[] #[]] 106)
  by_cases h : openE t true = 0
  · have HE := Lib.hid (show endsP t Sp.high = _ from if_pos h)
    obtain ⟨hvl, -, -⟩ := openE_zero h
    have hNW := hvl.w0
    have hN6 := hvl.w6
    obtain ⟨N, hN⟩ := Int.eq_ofNat_of_zero_le hNW
    have hok := open_ok h
    rw [hN] at hN6 S
    have hn6 : N ≤ 6 := by omega
    rw [show t.wells.toNat = N by omega] at HE hok
    have HOK := Lib.hid hok
    have HN := Lib.hid hN
    have HO := Lib.hid h
    clear hvl hNW hok h
    rw [hN]
    clear hN
    have q0 := S.out.get 1 0 rfl rfl
    have q1 := S.out.get 1 1 rfl rfl
    have q2 := S.out.get 1 2 rfl rfl
    refine calls_of_marks Tryd.func50 rfl ?_
    simp only [Tryd.ntmps50, List.size_toArray, List.length_cons, List.length_nil, Nat.reduceAdd, Nat.reduceSub, Array.replicate_succ, Array.replicate_zero, List.push_toArray, List.append_toArray, List.nil_append, List.cons_append]
    go_wp2_with fail
    clear q0 q1 q2
    refine (open_yes _ t true _ ⟨_, _, by rw [HN.out], HSN.out.below S.out.bel, HSP.out.below S.out.bel⟩ HO.out).mono ?_
    rintro e wo hr
    obtain ⟨B, rfl, hB, hm, hb⟩ := hr
    have S := Lib.hid (S.out.takeM hb hB hm)
    have hwo := S.out.lt 1 rfl
    clear hB hb hm
    have S := Lib.hid (S.out.alloc [.slice none 0 0] 53)
    have q0 := S.out.get 3 0 rfl rfl
    go_wp2_with fail
    refine (levels_any B N _).mono ?_
    rintro e w1 ⟨rfl, rfl⟩
    have S := Lib.hid ((S.out.alloc [.pointer (some ⟨B, 0, none⟩)] 109).alloc [I (N : Nat)] 3)
    clear q0
    go_wp2_with fail
    obtain ⟨WB, hWB⟩ : ∃ WB, ((wo.alloc (.cells #[.slice none 0 0] 53)).alloc (.cells #[.pointer (some ⟨B, 0, none⟩)] 109)).alloc (.cells #[I (N : Nat)] 3) = WB := ⟨_, rfl⟩
    have hsz : wo.heap.size + 1 + 1 + 1 = WB.heap.size := by rw [← hWB]; simp
    rw [hWB] at S ⊢
    clear hWB
    have S := Lib.hid (S.out.fix.nil 3 1)
    have y0 := S.out.get 1 0 rfl rfl
    have y1 := S.out.get 2 0 rfl rfl
    have hbs := S.out.bel.size
    have hl0 := S.out.lt 1 rfl
    have hmm := S.out.mat 4 rfl
    have hBw := hmm.lt
    refine (wpIn_wide (n := 5)).1 ?_
    refine wpIn_rangeFunc_R (F := Fence.wide) rfl (by omega) (gf := 94) (lb := #[.pointer (some ⟨wo.heap.size + 1 + 1, 0, none⟩), .pointer (some ⟨wo.heap.size + 1, 0, none⟩)]) rfl trivial (enters_of Tryd.func94 (by kernel_rfl) rfl)
      (levels_seq WB _ _ B N _ hn6 HOK.out.1 y0 y1 hmm) (fun h k => h.trans k) (KpK.putObj (by intro k hk; simp at hk; omega)) (Below.refl _ _) (fun _ => rfl)
      (fun pre W => (Hid (pre = List.range pre.length) ∧ pre.length ≤ N) ∧ ∃ v, St w W W.heap.size [.own 3 1 v pre.length ((pre.map fun x => Sp.high (lvl (closeM (baseM t)) x)).map I), .box (wo.heap.size + 1 + 1) [I (N : Nat)], .box (wo.heap.size + 1) [.pointer (some ⟨B, 0, none⟩)], .box wo.heap.size [v], mat B (closeM (baseM t)), .box (w.heap.size + 1) [.func (.func 52) #[] #[]], .box w.heap.size [I (N : Nat), .slice A1 t.snd.length c1, .slice A2 t.slp.length c2]])
      (fun _ _ _ => False) ?hI (fun _ _ _ _ _ hs _ _ => hs) (fun _ _ => trivial) ⟨⟨Lib.hid rfl, by simp⟩, _, S.out⟩
      (fun pre x a' W => ((Hid (pre = List.range pre.length) ∧ pre.length ≤ N) ∧ Hid (x = pre.length) ∧ x < N) ∧ ∃ v Bx, St w W W.heap.size (.box Bx [I (lvl (closeM (baseM t)) x).low, I (lvl (closeM (baseM t)) x).high] :: [.own 3 1 v pre.length ((pre.map fun x => Sp.high (lvl (closeM (baseM t)) x)).map I), .box (wo.heap.size + 1 + 1) [I (N : Nat)], .box (wo.heap.size + 1) [.pointer (some ⟨B, 0, none⟩)], .box wo.heap.size [v], mat B (closeM (baseM t)), .box (w.heap.size + 1) [.func (.func 52) #[] #[]], .box w.heap.size [I (N : Nat), .slice A1 t.snd.length c1, .slice A2 t.slp.length c2]]) ∧
        a' = { tmps := #[.agg #[I (N : Nat), .slice A1 t.snd.length c1, .slice A2 t.slp.length c2], .func (.func 52) #[] #[], .pointer (some ⟨w.heap.size, 0, none⟩), .pointer (some ⟨w.heap.size + 1, 0, none⟩), .slice none 0 0, I 0, .pointer (some ⟨B, 0, none⟩), I 0, .pointer (some ⟨wo.heap.size, 0, none⟩), undef, .pointer (some ⟨Bx, 0, none⟩), .tuple #[.pointer (some ⟨B, 0, none⟩), I 0], .agg #[I (N : Nat), .slice A1 t.snd.length c1, .slice A2 t.slp.length c2], .tuple #[.pointer (some ⟨B, 0, none⟩), I 0], .pointer (some ⟨B, 0, none⟩), I 0, I 0, .bool false, undef, .pointer (some ⟨B, 0, none⟩), .pointer (some ⟨w.heap.size, 0, none⟩), I (N : Nat), .func (.func 94) #[] #[.pointer (some ⟨wo.heap.size + 1 + 1, 0, none⟩), .pointer (some ⟨wo.heap.size + 1, 0, none⟩)], I (x : Nat), (lvl (closeM (baseM t)) x).val, undef, undef, undef, undef, undef, undef, undef], defers := [] }) ?hAx ?assign ?body ?done ?stop
    case hI =>
      rintro s A B' row ⟨hs, v, hv⟩ hg hr
      exact ⟨hs, v, hv.other hg hr (by omega) (by simp [Item.cel, mat, Obj.isCells])⟩
    case hAx =>
      rintro pre x a' _ A B' row ⟨h1, v, Bx, h2, h3⟩ hg hr
      exact ⟨h1, v, Bx, h2.other hg hr (by omega) (by simp [Item.cel, mat, Obj.isCells]), h3⟩
    case assign =>
      rintro l pre x W K ⟨h1, v, h2⟩ ⟨hR, hRN⟩ hK
      have S2 := Lib.hid (h2.alloc [I (lvl (closeM (baseM t)) x).low, I (lvl (closeM (baseM t)) x).high] 47)
      have hKs : ∀ k ∈ [wo.heap.size + 1 + 1, wo.heap.size + 1, B], k < W.heap.size := by
        intro k hk
        have := h2.lt 1 rfl
        have := (h2.mat 4 rfl).lt
        simp at hk
        omega
      have HR := Lib.hid hR
      clear hR
      simp only [encL]
      gi_wp2
      exact hK _ _ ((KeepsOthers.alloc _ _).from _) (KpK.below ((Below.refl _ _).alloc (Nat.le_refl _) _) hKs) ⟨h1, v, S2.out.tail.fix⟩ ⟨⟨h1, HR.out, hRN⟩, v, W.heap.size, S2.out.fix, rfl⟩
    case body =>
      rintro l pre x a' W hl ⟨r, hr⟩ - ⟨⟨⟨h1, h1'⟩, h2, h3⟩, v, Bx, hS, rfl⟩
      have S := Lib.hid hS
      clear hS
      have hKs : ∀ k ∈ [wo.heap.size + 1 + 1, wo.heap.size + 1, B], k < W.heap.size := by
        intro k hk
        have := S.out.lt 2 rfl
        have := (S.out.mat 5 rfl).lt
        simp at hk
        omega
      have HRG := Lib.hid (show pre ++ [x] = List.range (pre ++ [x]).length by rw [List.length_append, List.length_singleton, List.range_succ, h2.out, ← h1.out])
      have HLN := Lib.hid (show (pre ++ [x]).length ≤ N by simp; have := h2.out; omega)
      have h63 : pre.length + 1 ≤ maxLen := by simp only [maxLen]; omega
      have hby : (pre.length + 1) * 8 ≤ 140737488355328 := by omega
      obtain ⟨i0, hi, hz0, hz1, hz2⟩ := info_parts Tryd.info3
      have h02 : 0 < 1 := by decide
      obtain ⟨A, c, rfl⟩ := own_shape (S.out.own 1 rfl)
      clear hl hr
      gi_wp2_with fail
      refine wpIn_region_treeB (.node [0, 1, 2] [3] (fun _ => .node [] [4] (fun _ => .last [] [5, 6]))) 5 (by kernel_rfl) (by kernel_rfl) ?_
      intro KQ hKQ w2 hb
      have HB := Lib.hid hb
      have S := Lib.hid (S.out.call hb)
      clear hb
      have k0 := cell_regrown (S.out.get 0 0 rfl rfl)
      have k1 := cell_regrown (S.out.get 0 1 rfl rfl)
      have k2 := cell_regrown (S.out.get 4 0 rfl rfl)
      have k3 := cell_regrown (S.out.get 6 0 rfl rfl)
      refine treeB_node ?_
      simp only [opsAt, List.filterMap_cons, List.filterMap_nil, List.getElem?_toArray, List.getElem?_cons_succ, List.getElem?_cons_zero]
      repeat (first | go_big_quiet_step (fail) | quiet_step (fail))
      refine wpQuiet_nil ?_
      refine all_one ?_
      intro K hK
      refine loud_op rfl rfl ?_
      go_simp
      refine (high1_any (lvl (closeM (baseM t)) x) _).mono ?_
      rintro e w3 ⟨rfl, hb⟩
      have HBR := Lib.hid hb
      have HB2 := Lib.hid (bto HB.out hb)
      have S := Lib.hid (S.out.call hb)
      refine hK _ _ hb ?_
      clear hK K hb k0 k1 k2 k3
      refine treeB_node ?_
      simp only [opsAt, List.filterMap_nil]
      refine wpQuiet_nil ?_
      refine all_one ?_
      intro K hK
      refine loud_op rfl rfl ?_
      go_simp
      refine hK _ _ (HBR.out.alloc HBR.out.size _) ?_
      have S := Lib.hid (S.out.alloc [I (Sp.high (lvl (closeM (baseM t)) x))] 3)
      have HB3 := Lib.hid (HB2.out.alloc HB2.out.size (.cells #[I (Sp.high (lvl (closeM (baseM t)) x))] 3))
      clear hK K
      refine treeB_last ?_
      simp only [opsAt, List.filterMap_cons, List.filterMap_nil, List.getElem?_toArray, List.getElem?_cons_succ, List.getElem?_cons_zero]
      refine wpQuiet_nil ?_
      refine wpList_append_src _ rfl _ _ 53 rfl w.heap.size 3 i0 (.int .i64 0) 1 8 Tryd.underlying53 hi hz0 hz1 hz2 rfl h02 _ pre.length _ rfl (S.out.own 2 rfl) _ 1 [I (Sp.high (lvl (closeM (baseM t)) x))] rfl (reads_box1 (S.out.get 0 0 rfl rfl)) (ints_one [Sp.high (lvl (closeM (baseM t)) x)]) h63 hby S.out.bel.size ?_
      intro v' w5 hown hg hv
      have S2 := Lib.hid (S.out.grown 2 rfl hown hg hv)
      have HKO := Lib.hid ((ko_below HB3.out).trans (S.out.ko 2 rfl trivial hg))
      have HKK := Lib.hid ((KpK.below HB3.out hKs).trans (KpK.grown hg (fun k hk => Nat.lt_of_lt_of_le (hKs k hk) HB3.out.size) (fun k hk => by
        simp only [List.mem_cons, List.not_mem_nil, or_false] at hk
        rcases hk with rfl | rfl | rfl
        · exact S.out.apart' 2 3 rfl rfl (by omega) rfl
        · exact S.out.apart' 2 4 rfl rfl (by omega) rfl
        · exact S.out.apart' 2 6 rfl rfl (by omega) rfl)))
      clear hg hv
      obtain ⟨A', c', rfl⟩ := own_shape hown
      have q0 := S2.out.get 5 0 rfl rfl
      have z0 := S2.out.free 5 0 rfl
      have hne : ∀ k ∈ [wo.heap.size + 1 + 1, wo.heap.size + 1, B], k ≠ wo.heap.size := (by
        intro k hk e
        simp only [List.mem_cons, List.not_mem_nil, or_false] at hk
        rcases hk with rfl | rfl | rfl
        · omega
        · omega
        · exact S2.out.apart' 6 5 rfl rfl (by omega) rfl (by rw [← e]; rfl))
      have HNE := Lib.hid hne
      clear hne hown
      go_wp2_with fail
      have S3 := Lib.hid (S2.out.set 5 0 (.slice A' (pre.length + 1) c') rfl)
      have HKO2 := Lib.hid (HKO.out.trans (KeepsOthers.setCell w5 ⟨wo.heap.size, 0, none⟩ (.slice A' (pre.length + 1) c')))
      have HKK2 := Lib.hid (HKK.out.trans (KpK.setCell (W := w5) (a := ⟨wo.heap.size, 0, none⟩) (v := .slice A' (pre.length + 1) c') HNE.out))
      exact ⟨HKO2.out.from _, HKK2.out, ⟨HRG, HLN.out⟩, _, by simpa [List.map_append] using S3.out.fix.tail.tail⟩
    case done =>
      rintro D xs W hD rfl ⟨⟨h1, h1'⟩, v, hS⟩ hK
      obtain ⟨A, c, rfl⟩ := own_shape (hS.own 0 rfl)
      have q0 := hS.get 3 0 rfl rfl
      go_wp2_with fail
      refine ⟨by simp, .inl ⟨_, _, rfl, run_takeDeferred hK, ?_⟩⟩
      have S3 := hS.putD (D := D) (by have := HN.out; omega) hK rfl (.deferred none) (by simp [Item.cel, mat, Obj.isCells])
      refine ⟨_, results_tmp2 rfl _ _ _, _, by rw [HE.out]; rfl, ?_, S3.bel⟩
      rw [HE.out]
      have hi := S3.own 0 rfl
      simp only [List.length_range] at hi ⊢
      exact Ints.of_own hi
    case stop =>
      rintro D c pre W _ _ h _
      exact h.elim
  · have HE := Lib.hid (show endsP t Sp.high = _ from if_neg h)
    have HO := Lib.hid h
    clear h
    have q0 := S.out.get 1 0 rfl rfl
    have q1 := S.out.get 1 1 rfl rfl
    have q2 := S.out.get 1 2 rfl rfl
    go_enter Tryd.func50, Tryd.ntmps50
    go_wp2_with fail
    clear q0 q1 q2
    refine (open_no _ t true _ ⟨_, _, rfl, HSN.out.below S.out.bel, HSP.out.below S.out.bel⟩ HO.out).mono ?_
    rintro e w1 ⟨rfl, hb⟩
    have S := Lib.hid (S.out.call hb)
    have hne := bne_iff_ne.2 HO.out
    clear hb
    go_wp2_with fail
    go_ret2
    exact ⟨_, by rw [HE.out]; rfl, by rw [HE.out]; exact ints_nil _, S.out.bel⟩

set_option maxRecDepth 20000 in
set_option maxHeartbeats 2000000 in
theorem lowest_any (v : Value) (t : Twn) (w : World) (hv : TwnAt w v t) :
    Calls Tryd.prog 26 #[v] w fun e w' => RetL w (endsP t Sp.low).1 (endsP t Sp.low).2 e w' := by
  obtain ⟨sv, pv, rfl, hs, hp⟩ := hv
  have HSN := Lib.hid hs
  have HSP := Lib.hid hp
  obtain ⟨A1, c1, rfl, -, -, -⟩ := id hs.open_
  obtain ⟨A2, c2, rfl, -, -, -⟩ := id hp.open_
  clear hs hp
  have S := Lib.hid (show St w (w.alloc (.cells #[I t.wells, .slice A1 t.snd.length c1, .slice A2 t.slp.length c2] 25)) (w.heap.size + 1) [.box w.heap.size [I t.wells, .slice A1 t.snd.length c1, .slice A2 t.slp.length c2]] from (St.init w).alloc [I t.wells, .slice A1 t.snd.length c1, .slice A2 t.slp.length c2] 25)
  have q0 := S.out.get 0 0 rfl rfl
  have q1 := S.out.get 0 1 rfl rfl
  have q2 := S.out.get 0 2 rfl rfl
  go_enter Tryd.func26, Tryd.ntmps26
  go_wp2_with fail
  clear q0 q1 q2
  refine (endsLow_any _ t _ ⟨_, _, rfl, HSN.out.below S.out.bel, HSP.out.below S.out.bel⟩).mono ?_
  rintro e w1 ⟨v, rfl, hi, hb⟩
  have HI := Lib.hid hi
  have S := Lib.hid (S.out.call hb)
  clear hi hb
  go_wp2_with fail
  go_ret2
  exact ⟨_, rfl, HI.out, S.out.bel⟩

set_option maxRecDepth 20000 in
set_option maxHeartbeats 2000000 in
theorem highest_any (v : Value) (t : Twn) (w : World) (hv : TwnAt w v t) :
    Calls Tryd.prog 27 #[v] w fun e w' => RetL w (endsP t Sp.high).1 (endsP t Sp.high).2 e w' := by
  obtain ⟨sv, pv, rfl, hs, hp⟩ := hv
  have HSN := Lib.hid hs
  have HSP := Lib.hid hp
  obtain ⟨A1, c1, rfl, -, -, -⟩ := id hs.open_
  obtain ⟨A2, c2, rfl, -, -, -⟩ := id hp.open_
  clear hs hp
  have S := Lib.hid (show St w (w.alloc (.cells #[I t.wells, .slice A1 t.snd.length c1, .slice A2 t.slp.length c2] 25)) (w.heap.size + 1) [.box w.heap.size [I t.wells, .slice A1 t.snd.length c1, .slice A2 t.slp.length c2]] from (St.init w).alloc [I t.wells, .slice A1 t.snd.length c1, .slice A2 t.slp.length c2] 25)
  have q0 := S.out.get 0 0 rfl rfl
  have q1 := S.out.get 0 1 rfl rfl
  have q2 := S.out.get 0 2 rfl rfl
  go_enter Tryd.func27, Tryd.ntmps27
  go_wp2_with fail
  clear q0 q1 q2
  refine (endsHigh_any _ t _ ⟨_, _, rfl, HSN.out.below S.out.bel, HSP.out.below S.out.bel⟩).mono ?_
  rintro e w1 ⟨v, rfl, hi, hb⟩
  have HI := Lib.hid hi
  have S := Lib.hid (S.out.call hb)
  clear hi hb
  go_wp2_with fail
  go_ret2
  exact ⟨_, rfl, HI.out, S.out.bel⟩

def overL (l : List Int) (n : Int) (k : Nat) : List Int := ((List.range k).filter fun i => decide (n ≤ l.getD i 0)).map fun (i : Nat) => (i : Int)
theorem overL_snoc {l : List Int} {n : Int} {k : Nat} (h : k < l.length) : overL l n (k + 1) = if n ≤ l[k] then overL l n k ++ [(k : Int)] else overL l n k := by
  unfold overL
  rw [List.range_succ, List.filter_append]
  by_cases hn : n ≤ l[k] <;> simp [hn, List.getElem?_eq_getElem h]
theorem overL_len (l : List Int) (n : Int) (k : Nat) : (overL l n k).length ≤ k := by
  unfold overL
  rw [List.length_map]
  exact Nat.le_trans (List.length_filter_le _ _) (by simp)
theorem ints_lenE {t : Twn} {g : Sp → Int} : (endsP t g).1.length ≤ 6 := by
  unfold endsP
  split
  · rename_i h
    have := (openE_zero h).1.w6
    simp
    omega
  · simp

end Go.Proofs.YtldcehhhndlhdaaDoor
/- Layer 1: one sounding more; each level between the ends is that of a truth. No program here. -/
namespace Go.Proofs.YtldcehhhndlhdaaDoor
def addS (t : Twn) (s : Snd) : Twn := ⟨t.wells, t.snd ++ [s], t.slp⟩
def addP (t : Twn) (s : Slp) : Twn := ⟨t.wells, t.snd, t.slp ++ [s]⟩
section
theorem Vl.addS {t : Twn} (h : Vl t) {s : Snd} (hs : 0 ≤ s.well ∧ s.well < t.wells ∧ 0 ≤ s.low ∧ s.low ≤ s.high ∧ s.high ≤ 99) : Vl (addS t s) := by
  refine ⟨h.w0, h.w6, fun u hu => ?_, h.slp⟩
  rcases List.mem_append.1 hu with hu | hu
  · exact h.snd u hu
  · rw [List.mem_singleton.1 hu]; exact hs
theorem tr_addS {t : Twn} {s : Snd} {x : Nat → Int} : Tr (addS t s) x ↔ Tr t x ∧ s.low ≤ x s.well.toNat ∧ x s.well.toNat ≤ s.high := by
  constructor
  · intro h
    exact ⟨⟨h.own, fun u hu => h.snd u (List.mem_append_left _ hu), h.slp⟩, h.snd s (List.mem_append_right _ (List.mem_singleton.2 rfl))⟩
  · rintro ⟨h, h2⟩
    refine ⟨h.own, fun u hu => ?_, h.slp⟩
    rcases List.mem_append.1 hu with hu | hu
    · exact h.snd u hu
    · rw [List.mem_singleton.1 hu]; exact h2
theorem tr_addP {t : Twn} {s : Slp} {x : Nat → Int} : Tr (addP t s) x ↔ Tr t x ∧ s.low ≤ x s.b.toNat - x s.a.toNat ∧ x s.b.toNat - x s.a.toNat ≤ s.high := by
  constructor
  · intro h
    exact ⟨⟨h.own, h.snd, fun u hu => h.slp u (List.mem_append_left _ hu)⟩, h.slp s (List.mem_append_right _ (List.mem_singleton.2 rfl))⟩
  · rintro ⟨h, h2⟩
    refine ⟨h.own, h.snd, fun u hu => ?_⟩
    rcases List.mem_append.1 hu with hu | hu
    · exact h.slp u hu
    · rw [List.mem_singleton.1 hu]; exact h2
theorem Tight.bd {t : Twn} (hv : Vl t) {ms : List Int} (ht : Tight t ms) (hl : ms.length = 49) (hi : Iso t.wells ms) (hd : ∀ i, i < 7 → at_ ms i i = 0) : Bd 99 99 ms := by
  have h6 := hv.w6
  have key : ∀ i j, i < 7 → j < 7 → at_ ms i j = 1048576 ∨ (-99 ≤ at_ ms i j ∧ at_ ms i j ≤ 99) := by
    intro i j hi7 hj7
    by_cases ha : act t.wells i ∧ act t.wells j
    · have := ht.fin i j ha.1 ha.2
      exact .inr (by omega)
    · by_cases e : i = j
      · subst e
        have := hd i hi7
        exact .inr (by omega)
      · exact .inl (hi i j hi7 hj7 e ha)
  exact ⟨hl, fun i j a b => by have := key i j a b; omega, fun i j a b => (key i j a b).imp id (fun e => e.2)⟩
/-- The closed bounds of a town that has a truth say what the town says. -/
theorem says_closed {t : Twn} (hv : Vl t) {ms : List Int} (hs : Says t ms) (hd : diagOk (closeM ms) = true) : Says t (closeM ms) ∧ Tight t (closeM ms) := by
  have ht := (says_ok hv hs).2 hd
  have hle : Le (closeM ms) ms := Le.closeK hs.bd.len 7 (by omega)
  have hl : (closeM ms).length = 49 := by rw [closeM_len, hs.bd.len]
  have hiso : Iso t.wells (closeM ms) := Iso.closeK hs.bd.len hs.iso 7 (by omega)
  have hz : ∀ i, i < 7 → at_ (closeM ms) i i = 0 := fun i hi => by
    have := hle i i hi hi
    have := hs.diag i hi
    have := diagOk_iff.1 hd i hi
    omega
  refine ⟨⟨ht.bd hv hl hiso hz, fun i hi => Int.le_of_eq (hz i hi), hiso, fun w hw => ?_, fun x => ?_⟩, ht⟩
  · have h6 := hv.w6
    have := hs.grd w hw
    have := hle 6 w (by omega) (by omega)
    have := hle w 6 (by omega) (by omega)
    omega
  · rw [Sol.closeM (hs.bd.top (by omega)), hs.sol x]
theorem says_sound {t : Twn} (hv : Vl t) {ms : List Int} (hs : Says t ms) {s : Snd} (h : 0 ≤ s.well ∧ s.well < t.wells ∧ 0 ≤ s.low ∧ s.low ≤ s.high ∧ s.high ≤ 99) : Says (addS t s) (soundM ms s) := by
  have h6 := hv.w6
  have htop := hs.bd.top (by omega)
  have hle : Le (soundM ms s) ms := (leave_le (by rw [leave_len]; exact hs.bd.len) (by omega) (by omega)).trans (leave_le hs.bd.len (by omega) (by omega))
  refine ⟨soundM_bd hs.bd h.1 (by omega) (by omega) (by omega) (by omega) (by omega) (by omega), fun i hi => Int.le_trans (hle i i hi hi) (hs.diag i hi), ?_, fun w hw => ?_, fun x => ?_⟩
  · have ha : act t.wells s.well.toNat := .inl (by omega)
    exact (hs.iso.leave hs.bd.len (by omega) (by omega) (.inr rfl) ha).leave (by rw [leave_len]; exact hs.bd.len) (by omega) (by omega) ha (.inr rfl)
  · have hw' : (w : Int) < t.wells := hw
    have := hs.grd w hw'
    have := hle 6 w (by omega) (by omega)
    have := hle w 6 (by omega) (by omega)
    omega
  · rw [soundM_sol htop h.1 (by omega) (by omega) (by omega), hs.sol x, tr_addS]
/-- Each level between the ends is that of a truth. -/
theorem mid_truth {t : Twn} (hv : Vl t) {l : List Sp} (he : Exact t l) {w : Nat} (hw : (w : Int) < t.wells) {n : Int} (h1 : (spAt l w).low ≤ n) (h2 : n ≤ (spAt l w).high) : ∃ x, Tr t x ∧ x w = n := by
  have h6 := hv.w6
  have h0 := hv.w0
  have hle : ∀ v : Nat, (v : Int) < t.wells → (spAt l v).low ≤ (spAt l v).high := fun v hv' => (he.all _ he.low v (by rw [he.len]; omega)).2
  refine ⟨fun v => max (spAt l v).low ((spAt l v).high - ((spAt l w).high - n)), ⟨fun v hv' => ?_, fun s hs => ?_, fun s hs => ?_⟩, ?_⟩
  · have a : 0 ≤ (spAt l v).low ∧ (spAt l v).low ≤ 99 := he.low.own v hv'
    have b : 0 ≤ (spAt l v).high ∧ (spAt l v).high ≤ 99 := he.high.own v hv'
    have c := hle v hv'
    show 0 ≤ max _ _ ∧ max _ _ ≤ 99
    omega
  · have hw' := hv.snd s hs
    have a : s.low ≤ (spAt l s.well.toNat).low ∧ (spAt l s.well.toNat).low ≤ s.high := he.low.snd s hs
    have b : s.low ≤ (spAt l s.well.toNat).high ∧ (spAt l s.well.toNat).high ≤ s.high := he.high.snd s hs
    show s.low ≤ max _ _ ∧ max _ _ ≤ s.high
    omega
  · have a : s.low ≤ (spAt l s.b.toNat).low - (spAt l s.a.toNat).low ∧ (spAt l s.b.toNat).low - (spAt l s.a.toNat).low ≤ s.high := he.low.slp s hs
    have b : s.low ≤ (spAt l s.b.toNat).high - (spAt l s.a.toNat).high ∧ (spAt l s.b.toNat).high - (spAt l s.a.toNat).high ≤ s.high := he.high.slp s hs
    show s.low ≤ max _ _ - max _ _ ∧ max _ _ - max _ _ ≤ s.high
    omega
  · have c := hle w hw
    show max _ _ = n
    omega
end
end Go.Proofs.YtldcehhhndlhdaaDoor
/- Walks: Higher, worst, Ask. -/
namespace Go.Proofs.YtldcehhhndlhdaaDoor
open Go.RowKit Go.Sort

def higherP (t : Twn) (a b : Int) : Int × Int := if (differP t b a).2 ≠ 0 then (0, (differP t b a).2) else if 0 < (differP t b a).1.low then (1, 0) else if (differP t b a).1.high ≤ 0 then (2, 0) else (3, 0)
/-- Closed bounds of a town that has a truth are small. -/
theorem says_okm {t : Twn} (hv : Vl t) {ms : List Int} (hs : Says t ms) (hd : diagOk (closeM ms) = true) : Okm (closeM ms) ∧ Sml (closeM ms) t.wells.toNat := by
  obtain ⟨h1, ht⟩ := says_closed hv hs hd
  have h0 := hv.w0
  refine ⟨tight_ok hv ht h1.bd.len h1.iso, fun i hi => ?_⟩
  have h1 := ht.fin i 6 (.inl (by omega)) (.inr rfl)
  have h2 := ht.fin 6 i (.inr rfl) (.inl (by omega))
  simp only [lvl]
  omega
theorem lvl_exact {t : Twn} (hv : Vl t) {ms : List Int} {l : List Sp} (ht : Tight t ms) (he : Exact t l) {w : Nat} (hw : (w : Int) < t.wells) : lvl ms w = spAt l w := by
  obtain ⟨h1, h2⟩ := tight_low hv ht he hw
  unfold lvl
  rw [h1, h2]
/-- A level between the ends leaves a truth. -/
theorem sound_ok {t : Twn} (h : openE t true = 0) {w : Nat} (hw : (w : Int) < t.wells) {n : Int} (h1 : (lvl (closeM (baseM t)) w).low ≤ n) (h2 : n ≤ (lvl (closeM (baseM t)) w).high) :
    0 ≤ n ∧ n ≤ 99 ∧ Says (addS t ⟨w, n, n⟩) (soundM (closeM (baseM t)) ⟨w, n, n⟩) ∧ diagOk (closeM (soundM (closeM (baseM t)) ⟨w, n, n⟩)) = true ∧ Vl (addS t ⟨w, n, n⟩) := by
  obtain ⟨hv, -, hd⟩ := openE_zero h
  obtain ⟨hs, ht⟩ := says_closed hv (baseM_says hv) hd
  obtain ⟨x, hx, -⟩ := ht.one 6 6 (.inr rfl) (.inr rfl)
  rcases spansR_cases hv with ⟨l, -, he⟩ | ⟨-, hn⟩
  · rw [lvl_exact hv ht he hw] at h1 h2
    obtain ⟨y, hy, hyn⟩ := mid_truth hv he hw h1 h2
    have hb := hy.own w hw
    rw [hyn] at hb
    have hok : (0 : Int) ≤ (⟨w, n, n⟩ : Snd).well ∧ (⟨w, n, n⟩ : Snd).well < t.wells ∧ 0 ≤ (⟨w, n, n⟩ : Snd).low ∧ (⟨w, n, n⟩ : Snd).low ≤ (⟨w, n, n⟩ : Snd).high ∧ (⟨w, n, n⟩ : Snd).high ≤ 99 := by
      dsimp only
      omega
    have hv2 : Vl (addS t ⟨w, n, n⟩) := hv.addS hok
    have hs2 := says_sound hv hs hok
    refine ⟨hb.1, hb.2, hs2, (says_ok hv2 hs2).1.2 ⟨y, tr_addS.2 ⟨hy, ?_⟩⟩, hv2⟩
    simp only [Int.toNat_natCast]
    omega
  · exact absurd ⟨x, hx⟩ hn
/-- The greatest width, if a well is sounded: of the first k levels that it can have. -/
def worstN (ms : List Int) (N w : Nat) : Nat → Int
  | 0 => 0
  | k + 1 => max (worstN ms N w k) (widL (closeM (soundM ms ⟨w, (lvl ms w).low + k, (lvl ms w).low + k⟩)) (List.range N))
def worstP (ms : List Int) (N w : Nat) : Int := worstN ms N w ((lvl ms w).high + 1 - (lvl ms w).low).toNat
theorem load_mat {P : Program} {ops : Array Oper} {rest : List Oper} {o : Oper} {a : Act} {w : World} {Q : Exit → Act → World → Prop} (hgd : o.guard = none) (ty : TypeId) (x : Operand) (ho : o.op = .load ty x)
    {B : Nat} {ms : List Int} (hm : MatAt w B ms) (hx : a.eval x = .pointer (some ⟨B, 0, none⟩)) (d : TypeDesc) (hu : P.underlying ty = some d) (hd : (match d with | .struct _ | .array _ _ => true | _ => false) = true)
    (hsz : (P.info? ty).map (·.size) = some 49) (hl : ms.length = 49) (h : wpList P ops Q rest (a.put o.dst (.agg (ms.map I).toArray)) w) : wpList P ops Q (o :: rest) a w :=
  wpList_load_row hgd ty x ho B hx _ (ms.map I).toArray (0, 0) d hm hu hd (by rw [hsz]; simp [hl]) h
theorem store_mat {P : Program} {ops : Array Oper} {rest : List Oper} {o : Oper} {a : Act} {w : World} {Q : Exit → Act → World → Prop} (hgd : o.guard = none) (ty : TypeId) (x y : Operand) (ho : o.op = .store ty x y)
    {B : Nat} {m0 ms : List Int} (hm : MatAt w B m0) (hx : a.eval x = .pointer (some ⟨B, 0, none⟩)) (hy : a.eval y = .agg (ms.map I).toArray)
    (hsz : (P.info? ty).map (·.size) = some 49) (hl0 : m0.length = 49) (hl : ms.length = 49) (h : ∀ w', w.grownBy w' (some B) → MatAt w' B ms → wpList P ops Q rest (a.put o.dst undef) w') : wpList P ops Q (o :: rest) a w :=
  wpList_store_row hgd ty x y ho B (ms.map I).toArray hx hy _ (m0.map I).toArray hm (by rw [hsz]; simp [hl]) (by simp [hl, hl0]) (by rw [Array.all_eq_true_iff_forall_mem]; intro v hv; exact ints_one ms v (by simpa using hv)) (h _ (grown_setRow _) (setRow_heap _ _ _ _ _ _ hm))
theorem info_bounds : (Tryd.prog.info? 163).map (·.size) = some 49 := by kernel_rfl

/-- Which well's worst is the least, of the first k: and how much it is. -/
def askTo (ms : List Int) (N : Nat) : Nat → Int × Int
  | 0 => (0, 1048576)
  | k + 1 => if worstP ms N k < (askTo ms N k).2 then ((k : Int), worstP ms N k) else askTo ms N k
def askP (t : Twn) : Int × Int := if openE t true = 0 then (if widL (closeM (baseM t)) (List.range t.wells.toNat) = 0 then (0, 3) else ((askTo (closeM (baseM t)) t.wells.toNat t.wells.toNat).1, 0)) else (0, openE t true)

end Go.Proofs.YtldcehhhndlhdaaDoor
