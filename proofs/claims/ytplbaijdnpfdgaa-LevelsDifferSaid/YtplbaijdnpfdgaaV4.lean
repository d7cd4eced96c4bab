/- Walks of the reference: Lowest, Highest, Over. -/
import Derived.Test.YtplbaijdnpfdgaaV3
namespace Go.Proofs.Ytplbaijdnpfdgaa
open Go.RowKit Go.Sort

theorem endsP_map {t : Twn} (h : openE t true = 0) (G : Sp → Int) : endsP t G = ((List.range t.wells.toNat).map fun w => G (lvl (closeM (baseM t)) w), 0) := by unfold endsP; rw [if_pos h]
set_option maxRecDepth 20000 in
set_option maxHeartbeats 4000000 in
theorem rLowest_any (v : Value) (t : Twn) (w : World) (hv : TwnAt w v t) :
    Calls Try.prog 51 #[v] w fun e w' => RetL w (endsP t Sp.low).1 (endsP t Sp.low).2 e w' := by
  obtain ⟨i0, hi, hz0, hz1, hz2⟩ := info_parts Try.info3
  obtain ⟨sv, pv, rfl, hs, hp⟩ := hv
  have HSN := Lib.hid hs
  have HSP := Lib.hid hp
  obtain ⟨A1, c1, rfl, -, -, -⟩ := id hs.open_
  obtain ⟨A2, c2, rfl, -, -, -⟩ := id hp.open_
  clear hs hp
  have S := Lib.hid (show St w (w.alloc (.cells #[I t.wells, .slice A1 t.snd.length c1, .slice A2 t.slp.length c2] 25)) (w.heap.size + 1) [.box w.heap.size [I t.wells, .slice A1 t.snd.length c1, .slice A2 t.slp.length c2]] from (St.init w).alloc [I t.wells, .slice A1 t.snd.length c1, .slice A2 t.slp.length c2] 25)
  have q0 := S.out.get 0 0 rfl rfl
  have q1 := S.out.get 0 1 rfl rfl
  have q2 := S.out.get 0 2 rfl rfl
  by_cases h : openE t true = 0
  · have HO := Lib.hid h
    have HE := Lib.hid (endsP_map h Sp.low)
    have HV := Lib.hid (openE_zero h).1
    clear h
    go_enter Try.func51, Try.ntmps51
    go_wp2_with fail
    clear q0 q1 q2
    refine (known_yes _ t _ _ ⟨_, _, rfl, HSN.out.below S.out.bel, HSP.out.below S.out.bel⟩ HO.out).mono ?_
    rintro e w1 ⟨L, v3, rfl, hex, ho, hb⟩
    obtain ⟨A3, c3, rfl⟩ := own_shape ho
    have S := Lib.hid (S.out.take hb ho)
    have HEX := Lib.hid hex
    clear hb ho hex
    obtain ⟨hex, hlv⟩ := HEX.out
    have hW := hex.len
    obtain ⟨N, hN⟩ : ∃ N, L.length = N := ⟨_, rfl⟩
    rw [hN] at S
    rw [hN]
    have hN6 : N ≤ 6 := by have := HV.out.w6; omega
    have HN := Lib.hid (show N = t.wells.toNat by omega)
    have HLN := Lib.hid hN
    have HLV := Lib.hid hlv
    clear hex hlv hW hN
    go_wp2_with fail
    go_loopw [6, 7] (fun u i wr => ∃ (k : Nat) (v : Value), k ≤ N ∧ u = v ∧ i = I k ∧ Hid (St w wr wr.heap.size [.own 3 1 v k (((List.range k).map fun w => (lvl (closeM (baseM t)) w).low).map I), .own 40 2 (.slice A3 N c3) N (spCells L), .box w.heap.size [I t.wells, .slice A1 t.snd.length c1, .slice A2 t.slp.length c2]])) (fun _ i _ => N - (intOf i).toNat)
    case atStart => exact ⟨0, _, by omega, rfl, rfl, Lib.hid (S.out.nil 3 1).fix⟩
    case round =>
      clear S
      obtain ⟨k, v, hk, rfl, rfl, S⟩ := hrel
      by_cases hlt : k < N
      · obtain ⟨g3, c3', hA3, -, -⟩ := own_shape_pos (S.out.own 1 rfl) (show 0 < N by omega)
        injection hA3 with hA3 _ hc3
        subst hA3
        have hcl := spCells_get (l := L) (m := k) (by rw [HLN.out]; omega)
        have y0 := own_at2 (S.out.own 1 rfl) hcl.1
        rw [← HLV.out k (by have := HN.out; omega)] at y0
        have hki : (k : Int) < (N : Int) := by omega
        obtain ⟨xv, hxv⟩ : ∃ x, (lvl (closeM (baseM t)) k).low = x := ⟨_, rfl⟩
        rw [hxv] at y0
        have HXV := Lib.hid hxv
        have h02 : 0 < 1 := by decide
        obtain ⟨A, c, rfl⟩ := own_shape (S.out.own 0 rfl)
        clear hcl hc3 hxv
        have h63 : k + 1 ≤ maxLen := by simp only [maxLen]; omega
        have hby : (k + 1) * 8 ≤ 140737488355328 := by omega
        have T := Lib.hid (S.out.alloc [I xv] 3)
        go_wp2_with (at_builtin; refine wpList_append_St T.out 1 rfl _ _ 29 rfl 3 i0 (.int .i64 0) 1 8 Try.underlying29 hi hz0 hz1 hz2 rfl h02 rfl rfl _ 1 [I xv] rfl (reads_box1 (T.out.get 0 0 rfl rfl)) (ints_one [xv]) h63 hby ?_; intro v5 w5 hS5; have S := Lib.hid hS5; clear hS5)
        have S := Lib.hid (show St w _ _ [.own 3 1 v5 (k + 1) (((List.range (k + 1)).map fun w => (lvl (closeM (baseM t)) w).low).map I), .own 40 2 (.slice (some ⟨g3, 0, none⟩) N c3) N (spCells L), .box w.heap.size [I t.wells, .slice A1 t.snd.length c1, .slice A2 t.slp.length c2]] from (by have h := S.out.tail; rw [List.range_succ, List.map_append, List.map_append]; simpa [HXV.out] using h))
        go_roundw
        case rel => exact ⟨k + 1, _, by omega, rfl, by go_num, Lib.hid S.out.fix⟩
        case measure => first | (simp [intOf]; done) | (simp [intOf]; omega)
      · obtain ⟨A, c, rfl⟩ := own_shape (S.out.own 0 rfl)
        go_wp2_with fail
        go_ret2
        exact ⟨_, by rw [HE.out]; rfl, (by rw [HE.out]; dsimp only; rw [show t.wells.toNat = k by have := HN.out; omega]; exact S.out.ints 0 rfl), S.out.bel⟩
  · have HO := Lib.hid h
    have HE := Lib.hid (show endsP t Sp.low = ([], openE t true) by unfold endsP; rw [if_neg h])
    have hne := bne_iff_ne.2 h
    obtain ⟨er, her⟩ : ∃ x, openE t true = x := ⟨_, rfl⟩
    rw [her] at HE hne
    have HER := Lib.hid her
    clear h her
    go_enter Try.func51, Try.ntmps51
    go_wp2_with fail
    clear q0 q1 q2
    refine (known_no _ t _ _ ⟨_, _, rfl, HSN.out.below S.out.bel, HSP.out.below S.out.bel⟩ HO.out).mono ?_
    rintro e w1 ⟨rfl, hb⟩
    rw [HER.out]
    have S := Lib.hid (S.out.call hb)
    clear hb
    go_wp2_with fail
    go_loopw [6, 7] (fun u i wr => u = .slice none 0 0 ∧ i = I 0 ∧ Hid (St w wr wr.heap.size [.box w.heap.size [I t.wells, .slice A1 t.snd.length c1, .slice A2 t.slp.length c2]])) (fun _ _ _ => 0)
    case atStart => exact ⟨rfl, rfl, Lib.hid S.out.fix⟩
    case round =>
      clear S
      obtain ⟨rfl, rfl, S⟩ := hrel
      go_wp2_with fail
      go_ret2
      exact ⟨_, by rw [HE.out]; rfl, by rw [HE.out]; exact ints_nil _, S.out.bel⟩

set_option maxRecDepth 20000 in
set_option maxHeartbeats 4000000 in
theorem rHighest_any (v : Value) (t : Twn) (w : World) (hv : TwnAt w v t) :
    Calls Try.prog 53 #[v] w fun e w' => RetL w (endsP t Sp.high).1 (endsP t Sp.high).2 e w' := by
  obtain ⟨i0, hi, hz0, hz1, hz2⟩ := info_parts Try.info3
  obtain ⟨sv, pv, rfl, hs, hp⟩ := hv
  have HSN := Lib.hid hs
  have HSP := Lib.hid hp
  obtain ⟨A1, c1, rfl, -, -, -⟩ := id hs.open_
  obtain ⟨A2, c2, rfl, -, -, -⟩ := id hp.open_
  clear hs hp
  have S := Lib.hid (show St w (w.alloc (.cells #[I t.wells, .slice A1 t.snd.length c1, .slice A2 t.slp.length c2] 25)) (w.heap.size + 1) [.box w.heap.size [I t.wells, .slice A1 t.snd.length c1, .slice A2 t.slp.length c2]] from (St.init w).alloc [I t.wells, .slice A1 t.snd.length c1, .slice A2 t.slp.length c2] 25)
  have q0 := S.out.get 0 0 rfl rfl
  have q1 := S.out.get 0 1 rfl rfl
  have q2 := S.out.get 0 2 rfl rfl
  by_cases h : openE t true = 0
  · have HO := Lib.hid h
    have HE := Lib.hid (endsP_map h Sp.high)
    have HV := Lib.hid (openE_zero h).1
    clear h
    go_enter Try.func53, Try.ntmps53
    go_wp2_with fail
    clear q0 q1 q2
    refine (known_yes _ t _ _ ⟨_, _, rfl, HSN.out.below S.out.bel, HSP.out.below S.out.bel⟩ HO.out).mono ?_
    rintro e w1 ⟨L, v3, rfl, hex, ho, hb⟩
    obtain ⟨A3, c3, rfl⟩ := own_shape ho
    have S := Lib.hid (S.out.take hb ho)
    have HEX := Lib.hid hex
    clear hb ho hex
    obtain ⟨hex, hlv⟩ := HEX.out
    have hW := hex.len
    obtain ⟨N, hN⟩ : ∃ N, L.length = N := ⟨_, rfl⟩
    rw [hN] at S
    rw [hN]
    have hN6 : N ≤ 6 := by have := HV.out.w6; omega
    have HN := Lib.hid (show N = t.wells.toNat by omega)
    have HLN := Lib.hid hN
    have HLV := Lib.hid hlv
    clear hex hlv hW hN
    go_wp2_with fail
    go_loopw [6, 7] (fun u i wr => ∃ (k : Nat) (v : Value), k ≤ N ∧ u = v ∧ i = I k ∧ Hid (St w wr wr.heap.size [.own 3 1 v k (((List.range k).map fun w => (lvl (closeM (baseM t)) w).high).map I), .own 40 2 (.slice A3 N c3) N (spCells L), .box w.heap.size [I t.wells, .slice A1 t.snd.length c1, .slice A2 t.slp.length c2]])) (fun _ i _ => N - (intOf i).toNat)
    case atStart => exact ⟨0, _, by omega, rfl, rfl, Lib.hid (S.out.nil 3 1).fix⟩
    case round =>
      clear S
      obtain ⟨k, v, hk, rfl, rfl, S⟩ := hrel
      by_cases hlt : k < N
      · obtain ⟨g3, c3', hA3, -, -⟩ := own_shape_pos (S.out.own 1 rfl) (show 0 < N by omega)
        injection hA3 with hA3 _ hc3
        subst hA3
        have hcl := spCells_get (l := L) (m := k) (by rw [HLN.out]; omega)
        have y0 := own_at2 (S.out.own 1 rfl) hcl.2
        rw [← HLV.out k (by have := HN.out; omega)] at y0
        have hki : (k : Int) < (N : Int) := by omega
        obtain ⟨xv, hxv⟩ : ∃ x, (lvl (closeM (baseM t)) k).high = x := ⟨_, rfl⟩
        rw [hxv] at y0
        have HXV := Lib.hid hxv
        have h02 : 0 < 1 := by decide
        obtain ⟨A, c, rfl⟩ := own_shape (S.out.own 0 rfl)
        clear hcl hc3 hxv
        have h63 : k + 1 ≤ maxLen := by simp only [maxLen]; omega
        have hby : (k + 1) * 8 ≤ 140737488355328 := by omega
        have T := Lib.hid (S.out.alloc [I xv] 3)
        go_wp2_with (at_builtin; refine wpList_append_St T.out 1 rfl _ _ 29 rfl 3 i0 (.int .i64 0) 1 8 Try.underlying29 hi hz0 hz1 hz2 rfl h02 rfl rfl _ 1 [I xv] rfl (reads_box1 (T.out.get 0 0 rfl rfl)) (ints_one [xv]) h63 hby ?_; intro v5 w5 hS5; have S := Lib.hid hS5; clear hS5)
        have S := Lib.hid (show St w _ _ [.own 3 1 v5 (k + 1) (((List.range (k + 1)).map fun w => (lvl (closeM (baseM t)) w).high).map I), .own 40 2 (.slice (some ⟨g3, 0, none⟩) N c3) N (spCells L), .box w.heap.size [I t.wells, .slice A1 t.snd.length c1, .slice A2 t.slp.length c2]] from (by have h := S.out.tail; rw [List.range_succ, List.map_append, List.map_append]; simpa [HXV.out] using h))
        go_roundw
        case rel => exact ⟨k + 1, _, by omega, rfl, by go_num, Lib.hid S.out.fix⟩
        case measure => first | (simp [intOf]; done) | (simp [intOf]; omega)
      · obtain ⟨A, c, rfl⟩ := own_shape (S.out.own 0 rfl)
        go_wp2_with fail
        go_ret2
        exact ⟨_, by rw [HE.out]; rfl, (by rw [HE.out]; dsimp only; rw [show t.wells.toNat = k by have := HN.out; omega]; exact S.out.ints 0 rfl), S.out.bel⟩
  · have HO := Lib.hid h
    have HE := Lib.hid (show endsP t Sp.high = ([], openE t true) by unfold endsP; rw [if_neg h])
    have hne := bne_iff_ne.2 h
    obtain ⟨er, her⟩ : ∃ x, openE t true = x := ⟨_, rfl⟩
    rw [her] at HE hne
    have HER := Lib.hid her
    clear h her
    go_enter Try.func53, Try.ntmps53
    go_wp2_with fail
    clear q0 q1 q2
    refine (known_no _ t _ _ ⟨_, _, rfl, HSN.out.below S.out.bel, HSP.out.below S.out.bel⟩ HO.out).mono ?_
    rintro e w1 ⟨rfl, hb⟩
    rw [HER.out]
    have S := Lib.hid (S.out.call hb)
    clear hb
    go_wp2_with fail
    go_loopw [6, 7] (fun u i wr => u = .slice none 0 0 ∧ i = I 0 ∧ Hid (St w wr wr.heap.size [.box w.heap.size [I t.wells, .slice A1 t.snd.length c1, .slice A2 t.slp.length c2]])) (fun _ _ _ => 0)
    case atStart => exact ⟨rfl, rfl, Lib.hid S.out.fix⟩
    case round =>
      clear S
      obtain ⟨rfl, rfl, S⟩ := hrel
      go_wp2_with fail
      go_ret2
      exact ⟨_, by rw [HE.out]; rfl, by rw [HE.out]; exact ints_nil _, S.out.bel⟩

set_option maxRecDepth 20000 in
set_option maxHeartbeats 4000000 in
theorem rOver_any (v : Value) (t : Twn) (n : Int) (w : World) (hv : TwnAt w v t) :
    Calls Try.prog 55 #[v, I n] w fun e w' => RetL w (overL (endsP t Sp.low).1 n (endsP t Sp.low).1.length) (endsP t Sp.low).2 e w' := by
  obtain ⟨i0, hi, hz0, hz1, hz2⟩ := info_parts Try.info3
  obtain ⟨sv, pv, rfl, hs, hp⟩ := hv
  have HSN := Lib.hid hs
  have HSP := Lib.hid hp
  obtain ⟨A1, c1, rfl, -, -, -⟩ := id hs.open_
  obtain ⟨A2, c2, rfl, -, -, -⟩ := id hp.open_
  clear hs hp
  have S := Lib.hid (show St w (w.alloc (.cells #[I t.wells, .slice A1 t.snd.length c1, .slice A2 t.slp.length c2] 25)) (w.heap.size + 1) [.box w.heap.size [I t.wells, .slice A1 t.snd.length c1, .slice A2 t.slp.length c2]] from (St.init w).alloc [I t.wells, .slice A1 t.snd.length c1, .slice A2 t.slp.length c2] 25)
  have q0 := S.out.get 0 0 rfl rfl
  have q1 := S.out.get 0 1 rfl rfl
  have q2 := S.out.get 0 2 rfl rfl
  by_cases h : openE t true = 0
  · have HO := Lib.hid h
    have HE := Lib.hid ((endsP_zero h).1)
    have HV := Lib.hid (openE_zero h).1
    clear h
    go_enter Try.func55, Try.ntmps55
    go_wp2_with fail
    clear q0 q1 q2
    refine (known_yes _ t _ _ ⟨_, _, rfl, HSN.out.below S.out.bel, HSP.out.below S.out.bel⟩ HO.out).mono ?_
    rintro e w1 ⟨L, v3, rfl, hex, ho, hb⟩
    obtain ⟨A3, c3, rfl⟩ := own_shape ho
    have S := Lib.hid (S.out.take hb ho)
    have HEX := Lib.hid hex
    clear hb ho hex
    obtain ⟨hex, hlv⟩ := HEX.out
    have hW := hex.len
    obtain ⟨N, hN⟩ : ∃ N, L.length = N := ⟨_, rfl⟩
    rw [hN] at S
    rw [hN]
    have hN6 : N ≤ 6 := by have := HV.out.w6; omega
    have HN := Lib.hid (show N = t.wells.toNat by omega)
    have HLN := Lib.hid hN
    have HLV := Lib.hid hlv
    clear hex hlv hW hN
    go_wp2_with fail
    go_loopw [8, 9] (fun u i wr => ∃ (k : Nat) (v : Value), k ≤ N ∧ u = v ∧ i = I k ∧ Hid (St w wr wr.heap.size [.own 3 1 v (overL (lowL t) n k).length ((overL (lowL t) n k).map I), .own 40 2 (.slice A3 N c3) N (spCells L), .box w.heap.size [I t.wells, .slice A1 t.snd.length c1, .slice A2 t.slp.length c2]])) (fun _ i _ => N - (intOf i).toNat)
    case atStart => exact ⟨0, _, by omega, rfl, rfl, Lib.hid (S.out.nil 3 1).fix⟩
    case round =>
      clear S
      obtain ⟨k, v, hk, rfl, rfl, S⟩ := hrel
      by_cases hlt : k < N
      · obtain ⟨g3, c3', hA3, -, -⟩ := own_shape_pos (S.out.own 1 rfl) (show 0 < N by omega)
        injection hA3 with hA3 _ hc3
        subst hA3
        have hcl := spCells_get (l := L) (m := k) (by rw [HLN.out]; omega)
        have y0 := own_at2 (S.out.own 1 rfl) hcl.1
        rw [← HLV.out k (by have := HN.out; omega)] at y0
        have hki : (k : Int) < (N : Int) := by omega
        obtain ⟨xv, hxv⟩ : ∃ x, (lvl (closeM (baseM t)) k).low = x := ⟨_, rfl⟩
        rw [hxv] at y0
        have HXV := Lib.hid hxv
        have h02 : 0 < 1 := by decide
        obtain ⟨A, c, rfl⟩ := own_shape (S.out.own 0 rfl)
        clear hcl hc3 hxv
        have hol := overL_len (lowL t) n k
        have hsn := overL_snoc (l := lowL t) (n := n) (k := k) (by rw [lowL_len]; have := HN.out; omega)
        have hlk : (lowL t)[k]'(by rw [lowL_len]; have := HN.out; omega) = xv := by
          rw [← HXV.out]; simp [lowL]
        rw [hlk] at hsn
        have HSN3 := Lib.hid hsn
        obtain ⟨q, hq⟩ : ∃ q, (overL (lowL t) n k).length = q := ⟨_, rfl⟩
        rw [hq] at hol S
        rw [hq]
        have HQ := Lib.hid hq
        clear hlk hsn hq
        have h63 : q + 1 ≤ maxLen := by simp only [maxLen]; omega
        have hby : (q + 1) * 8 ≤ 140737488355328 := by omega
        have T := Lib.hid (S.out.alloc [I (k : Int)] 3)
        by_cases hge : n ≤ xv
        · have HX := Lib.hid (HSN3.out.trans (if_pos hge))
          go_wp2_with (at_builtin; refine wpList_append_St T.out 1 rfl _ _ 29 rfl 3 i0 (.int .i64 0) 1 8 Try.underlying29 hi hz0 hz1 hz2 rfl h02 rfl rfl _ 1 [I (k : Int)] rfl (reads_box1 (T.out.get 0 0 rfl rfl)) (ints_one [(k : Int)]) h63 hby ?_; intro v5 w5 hS5; have S := Lib.hid hS5; clear hS5)
          have S := Lib.hid (show St w _ _ [.own 3 1 v5 (overL (lowL t) n (k + 1)).length ((overL (lowL t) n (k + 1)).map I), .own 40 2 (.slice (some ⟨g3, 0, none⟩) N c3) N (spCells L), .box w.heap.size [I t.wells, .slice A1 t.snd.length c1, .slice A2 t.slp.length c2]] from (by have h := S.out.tail; rw [HX.out]; simpa [HQ.out] using h))
          go_roundw
          case rel => exact ⟨k + 1, _, by omega, rfl, by go_num, Lib.hid S.out.fix⟩
          case measure => first | (simp [intOf]; done) | (simp [intOf]; omega)
        · have HX := Lib.hid (HSN3.out.trans (if_neg hge))
          have S := Lib.hid (show St w _ _ [.own 3 1 (.slice A q c) (overL (lowL t) n (k + 1)).length ((overL (lowL t) n (k + 1)).map I), .own 40 2 (.slice (some ⟨g3, 0, none⟩) N c3) N (spCells L), .box w.heap.size [I t.wells, .slice A1 t.snd.length c1, .slice A2 t.slp.length c2]] from (by have h := S.out; rw [HX.out, HQ.out]; exact h))
          go_wp2_with fail
          go_roundw
          case rel => exact ⟨k + 1, _, by omega, rfl, by go_num, Lib.hid S.out.fix⟩
          case measure => first | (simp [intOf]; done) | (simp [intOf]; omega)
      · obtain ⟨A, c, rfl⟩ := own_shape (S.out.own 0 rfl)
        go_wp2_with fail
        go_ret2
        exact ⟨_, by rw [HE.out]; rfl, (by rw [HE.out]; dsimp only; rw [show (lowL t).length = k by rw [lowL_len]; have := HN.out; omega]; exact S.out.ints 0 rfl), S.out.bel⟩
  · have HO := Lib.hid h
    have HE := Lib.hid (show endsP t Sp.low = ([], openE t true) by unfold endsP; rw [if_neg h])
    have hne := bne_iff_ne.2 h
    obtain ⟨er, her⟩ : ∃ x, openE t true = x := ⟨_, rfl⟩
    rw [her] at HE hne
    have HER := Lib.hid her
    clear h her
    go_enter Try.func55, Try.ntmps55
    go_wp2_with fail
    clear q0 q1 q2
    refine (known_no _ t _ _ ⟨_, _, rfl, HSN.out.below S.out.bel, HSP.out.below S.out.bel⟩ HO.out).mono ?_
    rintro e w1 ⟨rfl, hb⟩
    rw [HER.out]
    have S := Lib.hid (S.out.call hb)
    clear hb
    go_wp2_with fail
    go_loopw [8, 9] (fun u i wr => u = .slice none 0 0 ∧ i = I 0 ∧ Hid (St w wr wr.heap.size [.box w.heap.size [I t.wells, .slice A1 t.snd.length c1, .slice A2 t.slp.length c2]])) (fun _ _ _ => 0)
    case atStart => exact ⟨rfl, rfl, Lib.hid S.out.fix⟩
    case round =>
      clear S
      obtain ⟨rfl, rfl, S⟩ := hrel
      go_wp2_with fail
      go_ret2
      exact ⟨_, by rw [HE.out]; rfl, by rw [HE.out]; exact ints_nil _, S.out.bel⟩

end Go.Proofs.Ytplbaijdnpfdgaa
