/- Walks: Idle. -/
import Derived.Test.YtplbaijdnpfdgaaW12
namespace Go.Proofs.Ytplbaijdnpfdgaa
open Go.RowKit Go.Sort

theorem Tr.sub {t : Twn} {is : Nat → Bool} {x : Nat → Int} (h : Tr t x) : Tr (sub t is) x :=
  ⟨h.own, fun s hs => h.snd s ((subL_sublist _ _ _).subset hs), fun s hs => h.slp s ((subL_sublist _ _ _).subset hs)⟩
def butW (n : Nat) (w : Nat) : Bool := w != n
/-- The words, of the first k, that say nothing more. -/
def idleTo (t : Twn) (k : Nat) : List Int := ((List.range k).filter fun n => sameL (closeM (baseM t)) (closeM (baseM (sub t (butW n)))) (List.range t.wells.toNat)).map fun (n : Nat) => (n : Int)
def idleP (t : Twn) : List Int × Int := if openE t true = 0 then (idleTo t (t.snd.length + t.slp.length), 0) else ([], openE t true)
theorem idleTo_snoc (t : Twn) (k : Nat) : idleTo t (k + 1) = if sameL (closeM (baseM t)) (closeM (baseM (sub t (butW k)))) (List.range t.wells.toNat) = true then idleTo t k ++ [(k : Int)] else idleTo t k := by
  unfold idleTo
  rw [List.range_succ, List.filter_append]
  cases h : sameL (closeM (baseM t)) (closeM (baseM (sub t (butW k)))) (List.range t.wells.toNat) <;> simp [h]
theorem idleTo_len (t : Twn) (k : Nat) : (idleTo t k).length ≤ k := by
  unfold idleTo
  rw [List.length_map]
  exact Nat.le_trans (List.length_filter_le _ _) (by simp)
/-- The closed bounds of fewer words are small. -/
theorem sub_okm {t : Twn} (h : openE t true = 0) (is : Nat → Bool) : Okm (closeM (baseM (sub t is))) := by
  obtain ⟨hv, -, hd⟩ := openE_zero h
  have hv2 := hv.sub is
  obtain ⟨x, hx⟩ := (says_ok hv (baseM_says hv)).1.1 hd
  exact (says_okm hv2 (baseM_says hv2) ((says_ok hv2 (baseM_says hv2)).1.2 ⟨x, hx.sub⟩)).1
theorem not_tells (w : World) (bx n : Nat) (hn : w.cell? ⟨bx, 0, none⟩ = some (I (n : Nat))) : TellsNot w bx (butW n) := by
  intro W m hm hb
  have hc := keep_cell hb hn
  cases h : ((m : Int) != (n : Int))
  · have HE := Lib.hid (show butW n m = false by have h := of_decide_eq_true (show decide (m = n) = true by simp at h ⊢; omega); simp [butW, h])
    go_enter Try.func91, Try.ntmps91
    go_wp2_with fail
    go_ret
    exact ⟨by rw [HE.out]; rfl, Below.refl _ _⟩
  · have HE := Lib.hid (show butW n m = true by simp at h; simp [butW]; omega)
    go_enter Try.func91, Try.ntmps91
    go_wp2_with fail
    go_ret
    exact ⟨by rw [HE.out]; rfl, Below.refl _ _⟩

set_option maxRecDepth 20000 in
set_option maxHeartbeats 4000000 in
theorem idle_any (v : Value) (t : Twn) (w : World) (hv : TwnAt w v t) :
    Calls Try.prog 57 #[v] w fun e w' => RetL w (idleP t).1 (idleP t).2 e w' := by
  obtain ⟨sv, pv, rfl, hs, hp⟩ := hv
  have HSN := Lib.hid hs
  have HSP := Lib.hid hp
  obtain ⟨A1, c1, rfl, -, -, -⟩ := id hs.open_
  obtain ⟨A2, c2, rfl, -, -, -⟩ := id hp.open_
  clear hs hp
  have S := Lib.hid (show St w (w.alloc (.cells #[I t.wells, .slice A1 t.snd.length c1, .slice A2 t.slp.length c2] 25)) (w.heap.size + 1) [.box w.heap.size [I t.wells, .slice A1 t.snd.length c1, .slice A2 t.slp.length c2]] from (St.init w).alloc [I t.wells, .slice A1 t.snd.length c1, .slice A2 t.slp.length c2] 25)
  by_cases h : openE t true = 0
  · have HE := Lib.hid (show idleP t = _ from if_pos h)
    obtain ⟨hvl, -, -⟩ := openE_zero h
    have hNW := hvl.w0
    have hN6 := hvl.w6
    obtain ⟨N, hN⟩ := Int.eq_ofNat_of_zero_le hNW
    have hok := open_ok h
    rw [hN] at hN6 S
    have hn6 : N ≤ 6 := by omega
    rw [show t.wells.toNat = N by omega] at hok
    have HOK := Lib.hid hok
    have HN := Lib.hid hN
    have HO := Lib.hid h
    have HLN := Lib.hid (valid_iff'.1 (openE_zero' h).1)
    have hl1 := HLN.out.2.1
    have hl2 := HLN.out.2.2
    clear hvl hNW hok h
    rw [hN]
    clear hN
    have q0 := S.out.get 0 0 rfl rfl
    have q1 := S.out.get 0 1 rfl rfl
    have q2 := S.out.get 0 2 rfl rfl
    go_enter Try.func57, Try.ntmps57
    go_wp2_with fail
    clear q0 q1 q2
    refine (open_yes _ t true _ ⟨_, _, by rw [HN.out], HSN.out.below S.out.bel, HSP.out.below S.out.bel⟩ HO.out).mono ?_
    rintro e wo hr
    obtain ⟨B, rfl, hB, hm, hb⟩ := hr
    have S := Lib.hid (S.out.takeM hb hB hm)
    clear hB hb hm
    have q0 := S.out.get 1 0 rfl rfl
    have q1 := S.out.get 1 1 rfl rfl
    have q2 := S.out.get 1 2 rfl rfl
    go_wp2_with fail
    have S := Lib.hid (S.out.nil 3 1)
    refine (words_any _ t _ ⟨_, _, by rw [HN.out], HSN.out.below S.out.bel, HSP.out.below S.out.bel⟩ (by omega) (by omega)).mono ?_
    rintro e w2 ⟨rfl, hb⟩
    have S := Lib.hid (S.out.call hb)
    clear hb q0 q1 q2
    obtain ⟨M, hM⟩ : ∃ M, t.snd.length + t.slp.length = M := ⟨_, rfl⟩
    have hM16 : M ≤ 16 := by omega
    rw [hM] at HE ⊢
    have HMM := Lib.hid hM
    clear hM
    go_wp2_with fail
    go_loopw [6, 20] (fun u i wr => ∃ k : Nat, k ≤ M ∧ i = I k ∧ ∃ A c, u = .slice A (idleTo t k).length c ∧ Hid (St w wr wr.heap.size [.own 3 1 (.slice A (idleTo t k).length c) (idleTo t k).length ((idleTo t k).map I), mat B (closeM (baseM t)), .box w.heap.size [I (N : Nat), .slice A1 t.snd.length c1, .slice A2 t.slp.length c2]])) (fun _ i _ => M - (intOf i).toNat)
    case atStart => exact ⟨0, by omega, rfl, none, 0, rfl, S⟩
    case round =>
      clear S
      obtain ⟨k, hk, rfl, A, c, rfl, S⟩ := hrel
      by_cases hlt : k < M
      · have S := Lib.hid (S.out.alloc [I (k : Nat)] 3)
        have hsn := idleTo_snoc t k
        rw [show t.wells.toNat = N by rw [HN.out]; simp] at hsn
        have HSN' := Lib.hid hsn
        have hol := idleTo_len t k
        have h63 : (idleTo t k).length + 1 ≤ maxLen := by simp only [maxLen]; omega
        have hby : ((idleTo t k).length + 1) * 8 ≤ 140737488355328 := by omega
        clear hsn
        have q0 := S.out.get 3 0 rfl rfl
        have q1 := S.out.get 3 1 rfl rfl
        have q2 := S.out.get 3 2 rfl rfl
        have q3 := S.out.get 0 0 rfl rfl
        have hlw := S.out.lt 3 rfl
        go_wp2_with fail
        refine (saidNot_any _ t wr.heap.size (butW k) _ ⟨_, _, by rw [HN.out], HSN.out.below S.out.bel, HSP.out.below S.out.bel⟩ HLN.out.1 HLN.out.2.1 HLN.out.2.2 (not_tells _ _ _ q3)).mono ?_
        rintro e w3 hr
        obtain ⟨Bo, rfl, hB, hm, hb⟩ := hr
        have S := Lib.hid (S.out.takeM hb hB hm)
        clear hB hb hm q0 q1 q2 q3 hlw
        have q0 := S.out.get 4 0 rfl rfl
        go_wp2_with fail
        clear q0
        refine (same_any B Bo N _ _ _ (S.out.mat 3 rfl) (S.out.mat 0 rfl) hn6 HOK.out.1 (sub_okm HO.out _)).mono ?_
        rintro e w4 ⟨rfl, hb⟩
        have S := Lib.hid (S.out.call hb)
        clear hb
        cases hs : sameL (closeM (baseM t)) (closeM (baseM (sub t (butW k)))) (List.range N)
        · have HE := Lib.hid (HSN'.out.trans (if_neg (by rw [hs]; simp)))
          clear hs
          go_wp2_with fail
          go_roundw
          case rel => exact ⟨k + 1, by omega, by go_num, A, c, by rw [HE.out], Lib.hid (by rw [HE.out]; exact S.out.tail.tail)⟩
          case measure => first | (simp [intOf]; done) | (simp [intOf]; omega)
        · have HE := Lib.hid (HSN'.out.trans (if_pos hs))
          have HL := Lib.hid (show (idleTo t (k + 1)).length = (idleTo t k).length + 1 by rw [HE.out]; simp)
          clear hs
          have q3 := S.out.get 1 0 rfl rfl
          obtain ⟨i0, hi, hz0, hz1, hz2⟩ := info_parts Try.info3
          have h02 : 0 < 1 := by decide
          have S2 := Lib.hid (S.out.alloc [I (k : Int)] 3)
          go_wp2_with (at_builtin; refine wpList_append_St S2.out 3 rfl _ _ 29 rfl 3 i0 (.int .i64 0) 1 8 Try.underlying29 hi hz0 hz1 hz2 rfl h02 rfl rfl _ 1 [I (k : Int)] rfl (reads_box1 (S2.out.get 0 0 rfl rfl)) (ints_one [(k : Int)]) h63 hby ?_; intro v' w5 hS5; have S := Lib.hid hS5.tail.tail.tail; clear hS5; obtain ⟨A2', c2', rfl⟩ := own_shape (S.out.own 0 rfl))
          go_roundw
          case rel => exact ⟨k + 1, by omega, by go_num, A2', c2', by rw [HL.out], Lib.hid (by rw [HL.out, HE.out, List.map_append]; exact S.out)⟩
          case measure => first | (simp [intOf]; done) | (simp [intOf]; omega)
      · have HK := Lib.hid (show k = M by omega)
        go_wp2_with fail
        go_ret2
        exact ⟨_, by rw [HE.out]; rfl, by rw [HE.out, ← HK.out]; exact S.out.ints 0 rfl, S.out.bel⟩
  · have HE := Lib.hid (show idleP t = _ from if_neg h)
    have HO := Lib.hid h
    clear h
    have q0 := S.out.get 0 0 rfl rfl
    have q1 := S.out.get 0 1 rfl rfl
    have q2 := S.out.get 0 2 rfl rfl
    go_enter Try.func57, Try.ntmps57
    go_wp2_with fail
    clear q0 q1 q2
    refine (open_no _ t true _ ⟨_, _, rfl, HSN.out.below S.out.bel, HSP.out.below S.out.bel⟩ HO.out).mono ?_
    rintro e w1 ⟨rfl, hb⟩
    have S := Lib.hid (S.out.call hb)
    have hne := bne_iff_ne.2 HO.out
    clear hb
    go_wp2_with fail
    go_ret2
    exact ⟨_, by rw [HE.out]; rfl, by rw [HE.out]; exact ints_nil _, S.out.bel⟩

end Go.Proofs.Ytplbaijdnpfdgaa
