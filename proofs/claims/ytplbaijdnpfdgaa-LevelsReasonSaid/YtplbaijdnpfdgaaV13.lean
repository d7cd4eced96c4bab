/- Walks of the reference: Own, Step, Follows. -/
import Derived.Test.YtplbaijdnpfdgaaV9
namespace Go.Proofs.Ytplbaijdnpfdgaa
open Go.RowKit Go.Sort

def ownF (x : Int) (n : Int) (s : Snd) : Int := if s.well = x then min n s.high else n
def ownTo (t : Twn) (x : Int) (k : Nat) : Int := (t.snd.take k).foldl (ownF x) 99
theorem ownTo_succ {t : Twn} {x : Int} {k : Nat} (h : k < t.snd.length) : ownTo t x (k + 1) = ownF x (ownTo t x k) t.snd[k] := by
  rw [ownTo, List.take_succ_eq_append_getElem h, List.foldl_append]
  rfl
theorem rockTo_own {w : Nat} (hw : w < 6) : ∀ n, n ≤ 6 → at_ (rockTo rock0 n) 6 w = if w < n then 99 else 1048576
  | 0, _ => by
    have : w = 0 ∨ w = 1 ∨ w = 2 ∨ w = 3 ∨ w = 4 ∨ w = 5 := by omega
    rcases this with rfl | rfl | rfl | rfl | rfl | rfl <;> decide
  | n + 1, h => by
    have ih := rockTo_own hw n (by omega)
    have l1 : (rockTo rock0 n).length = 49 := by rw [rockTo_len]; rfl
    rw [rockTo, at_leave _ _ _ _ _ _ (by rw [leave_len]; exact l1) (by omega) (by omega) (by omega), if_neg (by omega), at_leave _ _ _ _ _ _ l1 (by omega) (by omega) (by omega)]
    by_cases e : w = n
    · subst e
      rw [if_pos ⟨rfl, rfl⟩, ih, if_neg (by omega), if_pos (by omega)]
      rfl
    · rw [if_neg (by omega), ih]
      by_cases h1 : w < n
      · rw [if_pos h1, if_pos (by omega)]
      · rw [if_neg h1, if_neg (by omega)]
theorem rockTo_out {a b : Nat} (ha : a < 6) (hb : b < 6) (hab : a ≠ b) : ∀ n, n ≤ 6 → at_ (rockTo rock0 n) a b = 1048576
  | 0, _ => by
    have h1 : a = 0 ∨ a = 1 ∨ a = 2 ∨ a = 3 ∨ a = 4 ∨ a = 5 := by omega
    have h2 : b = 0 ∨ b = 1 ∨ b = 2 ∨ b = 3 ∨ b = 4 ∨ b = 5 := by omega
    rcases h1 with rfl | rfl | rfl | rfl | rfl | rfl <;> rcases h2 with rfl | rfl | rfl | rfl | rfl | rfl <;> first | (exact absurd rfl hab) | decide
  | n + 1, h => by
    have ih := rockTo_out ha hb hab n (by omega)
    have l1 : (rockTo rock0 n).length = 49 := by rw [rockTo_len]; rfl
    rw [rockTo, at_leave _ _ _ _ _ _ (by rw [leave_len]; exact l1) (by omega) (by omega) (by omega), if_neg (by omega), at_leave _ _ _ _ _ _ l1 (by omega) (by omega) (by omega), if_neg (by omega), ih]
theorem sounds_own {x : Int} (hx : 0 ≤ x ∧ x < 6) : ∀ (ss : List Snd) (ms : List Int), ms.length = 49 → (∀ s ∈ ss, 0 ≤ s.well ∧ s.well < 6) → at_ (ss.foldl soundM ms) 6 x.toNat = ss.foldl (ownF x) (at_ ms 6 x.toNat)
  | [], _, _, _ => rfl
  | s :: ss, ms, hl, hb => by
    have h1 := hb s (by simp)
    rw [List.foldl_cons, List.foldl_cons, sounds_own hx ss _ (by rw [soundM_len, hl]) fun u hu => hb u (List.mem_cons_of_mem _ hu)]
    congr 1
    rw [soundM, at_leave _ _ _ _ _ _ (by rw [leave_len]; exact hl) (by omega) (by omega) (by omega), if_neg (by omega), at_leave _ _ _ _ _ _ hl (by omega) (by omega) (by omega)]
    unfold ownF
    by_cases e : s.well = x
    · rw [if_pos ⟨rfl, by rw [e]⟩, if_pos e, e]
    · rw [if_neg (by omega), if_neg e]
theorem sounds_out {a b : Nat} (ha : a < 6) (hb : b < 6) : ∀ (ss : List Snd) (ms : List Int), ms.length = 49 → (∀ s ∈ ss, 0 ≤ s.well ∧ s.well < 6) → at_ (ss.foldl soundM ms) a b = at_ ms a b
  | [], _, _, _ => rfl
  | s :: ss, ms, hl, h => by
    have h1 := h s (by simp)
    rw [List.foldl_cons, sounds_out ha hb ss _ (by rw [soundM_len, hl]) fun u hu => h u (List.mem_cons_of_mem _ hu), soundM, at_leave _ _ _ _ _ _ (by rw [leave_len]; exact hl) (by omega) (by omega) (by omega), if_neg (by omega), at_leave _ _ _ _ _ _ hl (by omega) (by omega) (by omega), if_neg (by omega)]
theorem slopes_own {x : Nat} : ∀ (ss : List Slp) (ms : List Int), ms.length = 49 → x < 6 → (∀ s ∈ ss, 0 ≤ s.a ∧ s.a < 6 ∧ 0 ≤ s.b ∧ s.b < 6) → at_ (ss.foldl slopeM ms) 6 x = at_ ms 6 x
  | [], _, _, _, _ => rfl
  | s :: ss, ms, hl, hx, h => by
    have h1 := h s (by simp)
    rw [List.foldl_cons, slopes_own ss _ (by rw [slopeM_len, hl]) hx fun u hu => h u (List.mem_cons_of_mem _ hu), slopeM, at_leave _ _ _ _ _ _ (by rw [leave_len]; exact hl) (by omega) (by omega) (by omega), if_neg (by omega), at_leave _ _ _ _ _ _ hl (by omega) (by omega) (by omega), if_neg (by omega)]
theorem own_eq {t : Twn} (hv : Vl t) {x : Int} (hx : 0 ≤ x ∧ x < t.wells) : ownTo t x t.snd.length = at_ (baseM t) 6 x.toNat := by
  have h6 := hv.w6
  rw [baseM, slopes_own _ _ (by rw [sounds_len, rock_len]) (by omega) fun s hs => by have := hv.slp' s hs; omega, sounds_own (by omega) _ _ (rock_len _) fun s hs => by have := hv.snd' s hs; omega, rock, rockTo_own (by omega) _ (by omega), if_pos (by omega), ownTo, List.take_length]
def stepF (x y : Int) (p : Int × Bool) (s : Slp) : Int × Bool :=
  if (s.a == x && s.b == y && (!p.2 || decide (s.high < p.1))) = true then (s.high, true) else if (s.a == y && s.b == x && (!p.2 || decide (-s.low < p.1))) = true then (-s.low, true) else p
def stepTo (t : Twn) (x y : Int) (k : Nat) : Int × Bool := (t.slp.take k).foldl (stepF x y) (0, false)
theorem stepTo_succ {t : Twn} {x y : Int} {k : Nat} (h : k < t.slp.length) : stepTo t x y (k + 1) = stepF x y (stepTo t x y k) t.slp[k] := by
  rw [stepTo, List.take_succ_eq_append_getElem h, List.foldl_append]
  rfl
def stepV (m : Int) : Int × Bool := if m = 1048576 then (0, false) else (m, true)
theorem stepF_eq {x y : Int} (hx : 0 ≤ x ∧ x < 6) (hy : 0 ≤ y ∧ y < 6) (hxy : x ≠ y) {s : Slp} (hs : 0 ≤ s.a ∧ s.a < 6 ∧ 0 ≤ s.b ∧ s.b < 6 ∧ s.a ≠ s.b ∧ -99 ≤ s.low ∧ s.low ≤ s.high ∧ s.high ≤ 99) {ms : List Int} (hl : ms.length = 49) (hm : at_ ms x.toNat y.toNat ≤ 1048576) : stepF x y (stepV (at_ ms x.toNat y.toNat)) s = stepV (at_ (slopeM ms s) x.toNat y.toNat) := by
  obtain ⟨sa, sb, sl, sh⟩ := s
  dsimp only at hs
  have e2 := at_leave (leave ms sa.toNat sb.toNat sh) sb.toNat sa.toNat x.toNat y.toNat (-sl) (by rw [leave_len]; exact hl) (by omega) (by omega) (by omega)
  have e0 := at_leave ms sa.toNat sb.toNat x.toNat y.toNat sh hl (by omega) (by omega) (by omega)
  have e1 := at_leave ms sa.toNat sb.toNat sb.toNat sa.toNat sh hl (by omega) (by omega) (by omega)
  rw [if_neg (by omega)] at e1
  rw [e1, e0] at e2
  unfold slopeM
  dsimp only
  rw [e2]
  clear e0 e1 e2
  unfold stepF
  dsimp only
  by_cases h1 : sa = x ∧ sb = y
  · obtain ⟨rfl, rfl⟩ := h1
    rw [if_neg (show ¬ (sa.toNat = sb.toNat ∧ sb.toNat = sa.toNat) by omega), if_pos (show sa.toNat = sa.toNat ∧ sb.toNat = sb.toNat from ⟨rfl, rfl⟩)]
    obtain ⟨m, hm'⟩ : ∃ m, at_ ms sa.toNat sb.toNat = m := ⟨_, rfl⟩
    rw [hm'] at hm ⊢
    have b3 : (sa == sb) = false := by rw [beq_eq_false_iff_ne]; omega
    unfold stepV
    by_cases h2 : m = 1048576
    · rw [if_pos h2, show min m sh = sh by omega, if_neg (show ¬ sh = 1048576 by omega)]
      simp
    · rw [if_neg h2]
      by_cases h3 : sh < m
      · rw [show min m sh = sh by omega, if_neg (show ¬ sh = 1048576 by omega)]
        simp [h3]
      · rw [show min m sh = m by omega, if_neg h2]
        simp [h3, b3]
  · by_cases h4 : sa = y ∧ sb = x
    · obtain ⟨rfl, rfl⟩ := h4
      rw [if_pos (show sb.toNat = sb.toNat ∧ sa.toNat = sa.toNat from ⟨rfl, rfl⟩)]
      obtain ⟨m, hm'⟩ : ∃ m, at_ ms sb.toNat sa.toNat = m := ⟨_, rfl⟩
      rw [hm'] at hm ⊢
      have b3 : (sa == sb) = false := by rw [beq_eq_false_iff_ne]; omega
      unfold stepV
      by_cases h2 : m = 1048576
      · rw [if_pos h2, show min m (-sl) = -sl by omega, if_neg (show ¬ -sl = 1048576 by omega)]
        simp [b3]
      · rw [if_neg h2]
        by_cases h3 : -sl < m
        · rw [show min m (-sl) = -sl by omega, if_neg (show ¬ -sl = 1048576 by omega)]
          simp [h3, b3]
        · rw [show min m (-sl) = m by omega, if_neg h2]
          simp [h3, b3]
    · have b1 : (sa == x && sb == y) = false := by
        rw [Bool.and_eq_false_iff, beq_eq_false_iff_ne, beq_eq_false_iff_ne]
        by_cases e : sa = x
        · exact .inr fun e' => h1 ⟨e, e'⟩
        · exact .inl e
      have b2 : (sa == y && sb == x) = false := by
        rw [Bool.and_eq_false_iff, beq_eq_false_iff_ne, beq_eq_false_iff_ne]
        by_cases e : sa = y
        · exact .inr fun e' => h4 ⟨e, e'⟩
        · exact .inl e
      rw [b1, b2, if_neg (show ¬ (x.toNat = sb.toNat ∧ y.toNat = sa.toNat) by omega), if_neg (show ¬ (x.toNat = sa.toNat ∧ y.toNat = sb.toNat) by omega)]
      simp
theorem steps_eq {x y : Int} (hx : 0 ≤ x ∧ x < 6) (hy : 0 ≤ y ∧ y < 6) (hxy : x ≠ y) : ∀ (ss : List Slp) (ms : List Int), ms.length = 49 → Top ms → (∀ s ∈ ss, 0 ≤ s.a ∧ s.a < 6 ∧ 0 ≤ s.b ∧ s.b < 6 ∧ s.a ≠ s.b ∧ -99 ≤ s.low ∧ s.low ≤ s.high ∧ s.high ≤ 99) → ss.foldl (stepF x y) (stepV (at_ ms x.toNat y.toNat)) = stepV (at_ (ss.foldl slopeM ms) x.toNat y.toNat)
  | [], _, _, _, _ => rfl
  | s :: ss, ms, hl, ht, h => by
    have h1 := h s (by simp)
    rw [List.foldl_cons, List.foldl_cons, stepF_eq hx hy hxy h1 hl (ht.2 _ _ (by omega) (by omega))]
    exact steps_eq hx hy hxy ss _ (by rw [slopeM_len, hl]) (slopeM_top ht (by omega) (by omega) (by omega) (by omega)) fun u hu => h u (List.mem_cons_of_mem _ hu)
theorem step_eq {t : Twn} (hv : Vl t) {x y : Int} (hx : 0 ≤ x ∧ x < t.wells) (hy : 0 ≤ y ∧ y < t.wells) (hxy : x ≠ y) : stepTo t x y t.slp.length = stepV (at_ (baseM t) x.toNat y.toNat) := by
  have h6 := hv.w6
  have hr : at_ (t.snd.foldl soundM (rock t.wells)) x.toNat y.toNat = 1048576 := by
    rw [sounds_out (by omega) (by omega) _ _ (rock_len _) fun s hs => by have := hv.snd' s hs; omega, rock, rockTo_out (by omega) (by omega) (by omega) _ (by omega)]
  have h := steps_eq (x := x) (y := y) (by omega) (by omega) hxy t.slp (t.snd.foldl soundM (rock t.wells)) (by rw [sounds_len, rock_len]) (sounds_sol (x := fun _ => 0) t.snd (rock t.wells) (rockTo_top _ (by omega)) hv.snd').1 fun s hs => by have := hv.slp s hs; omega
  rw [hr, show stepV 1048576 = (0, false) from rfl] at h
  rw [stepTo, List.take_length, h, baseM]
theorem stepTo_bd {t : Twn} (hv : Vl t) {x y : Int} : ∀ k, k ≤ t.slp.length → -99 ≤ (stepTo t x y k).1 ∧ (stepTo t x y k).1 ≤ 99
  | 0, _ => by simp [stepTo]
  | k + 1, h => by
    have ih := stepTo_bd hv (x := x) (y := y) k (by omega)
    rw [stepTo_succ (by omega)]
    have := hv.slp _ (List.getElem_mem (show k < t.slp.length by omega))
    unfold stepF
    split
    · dsimp only; omega
    · split
      · dsimp only; omega
      · exact ih
theorem finE_append {own : List Int} : ∀ (m1 m2 l : List Nat), finE own (lastW l) (m1 ++ m2) = (finE own (lastW l) m1 && finE own (lastW (l ++ m1)) m2)
  | [], m2, l => by simp [finE]
  | w :: m1, m2, l => by
    have ih := finE_append (own := own) m1 m2 (l ++ [w])
    rw [lastW_snoc] at ih
    have e : l ++ [w] ++ m1 = l ++ w :: m1 := by simp
    rw [e] at ih
    rw [List.cons_append, finE, finE, ih, Bool.and_assoc]
theorem take_last {l : List Nat} {k : Nat} (h : k < l.length) (hk : 0 < k) : lastW (l.take k) = l.getD (k - 1) 0 := by
  obtain ⟨j, rfl⟩ : ∃ j, k = j + 1 := ⟨k - 1, by omega⟩
  rw [List.take_succ_eq_append_getElem (by omega), lastW_snoc, Nat.add_sub_cancel, getD_at (by omega)]
theorem follow_succ {own : List Int} {l : List Nat} {k : Nat} (h : k < l.length) (hk : 0 < k) : sumE own 6 (l.take (k + 1)) = sumE own 6 (l.take k) + at_ own (l.getD (k - 1) 0) (l.getD k 0) ∧ finE own 6 (l.take (k + 1)) = (finE own 6 (l.take k) && decide (at_ own (l.getD (k - 1) 0) (l.getD k 0) ≠ 1048576)) := by
  have h1 := sumE_append (own := own) (l.take k) [l[k]] []
  have h2 := finE_append (own := own) (l.take k) [l[k]] []
  rw [show lastW [] = 6 from rfl, List.nil_append, take_last h hk] at h1 h2
  rw [List.take_succ_eq_append_getElem h, h1, h2, getD_at h]
  simp [sumE, finE]
theorem fin_pre {own : List Int} {l : List Nat} {k : Nat} (h : finE own 6 (l.take k) = false) : finE own 6 l = false := by
  have h2 := finE_append (own := own) (l.take k) (l.drop k) []
  rw [List.take_append_drop, show lastW [] = 6 from rfl, h] at h2
  rw [h2]; rfl
theorem sum_bd {own : List Int} (h : Bd 99 99 own) : ∀ (m : List Nat) (p : Nat), p < 7 → (∀ x ∈ m, x < 7) → finE own p m = true → -99 * (m.length : Int) ≤ sumE own p m ∧ sumE own p m ≤ 99 * (m.length : Int)
  | [], _, _, _, _ => by simp [sumE]
  | w :: m, p, hp, hb, hf => by
    rw [finE, Bool.and_eq_true, decide_eq_true_eq] at hf
    have hw := hb w (by simp)
    have ih := sum_bd h m w hw (fun x hx => hb x (List.mem_cons_of_mem _ hx)) hf.2
    have h1 := h.low p w hp hw
    have h2 := h.high p w hp hw
    rw [sumE, List.length_cons]
    omega
/-- A list whose lengths are asked. -/
structure Way (t : Twn) (l : List Nat) : Prop where
  ne : 0 < l.length
  len : l.length ≤ 6
  lt : ∀ x ∈ l, (x : Int) < t.wells
  nodup : l.Nodup
theorem Way.at_lt {t : Twn} {l : List Nat} (h : Way t l) {k : Nat} (hk : k < l.length) : ((l.getD k 0 : Nat) : Int) < t.wells := by rw [getD_at hk]; exact h.lt _ (List.getElem_mem hk)
theorem Way.ne_at {t : Twn} {l : List Nat} (h : Way t l) {k : Nat} (hk : k < l.length) (h0 : 0 < k) : l.getD (k - 1) 0 ≠ l.getD k 0 := by
  rw [getD_at hk, getD_at (by omega)]
  intro e
  exact List.pairwise_iff_getElem.1 h.nodup (k - 1) k (by omega) hk (by omega) e

set_option maxRecDepth 20000 in
set_option maxHeartbeats 4000000 in
theorem own_any (v : Value) (t : Twn) (x : Int) (w : World) (hv : TwnAt w v t) (hvl : Vl t) (hl1 : t.snd.length ≤ 1000) (hx : 0 ≤ x ∧ x < t.wells) :
    Calls Try.prog 85 #[v, I x] w fun e w' => e = .returned (I (at_ (baseM t) 6 x.toNat)) ∧ Below w.heap.size w w' := by
  obtain ⟨sv, pv, rfl, hs, hp⟩ := hv
  obtain ⟨A1, c1, rfl, hsl1, hsl2, hc1⟩ := hs.open_
  obtain ⟨A2, c2, rfl, hpl1, hpl2, hc2⟩ := hp.open_
  have HSN := Lib.hid hs
  have HSP := Lib.hid hp
  have HC1 := Lib.hid hc1
  have HC2 := Lib.hid hc2
  clear hc1 hc2 hs hp
  have S := Lib.hid (show St w (w.alloc (.cells #[I t.wells, .slice A1 t.snd.length c1, .slice A2 t.slp.length c2] 25)) (w.heap.size + 1) [.box w.heap.size [I t.wells, .slice A1 t.snd.length c1, .slice A2 t.slp.length c2]] from (St.init w).alloc [I t.wells, .slice A1 t.snd.length c1, .slice A2 t.slp.length c2] 25)
  have HVL := Lib.hid hvl
  go_enter Try.func85, Try.ntmps85
  go_wp2_with fail
  go_loopw [5, 6] (fun n i wr => ∃ k : Nat, k ≤ t.snd.length ∧ n = I (ownTo t x k) ∧ i = I k ∧ Hid (St w wr wr.heap.size [.box w.heap.size [I t.wells, .slice A1 t.snd.length c1, .slice A2 t.slp.length c2]])) (fun _ i _ => t.snd.length - (intOf i).toNat)
  case atStart => exact ⟨0, by omega, rfl, rfl, Lib.hid S.out.fix⟩
  case round =>
    clear S
    obtain ⟨k, hk, rfl, rfl, S⟩ := hrel
    have q1 := S.out.get 0 1 rfl rfl
    by_cases hlt : k < t.snd.length
    · have hki : (k : Int) < (t.snd.length : Int) := by omega
      obtain ⟨b1, o1, rfl, hb1, hcell1⟩ := HC1.out (by omega)
      obtain ⟨x0, x1, x2⟩ := hcell1 k hlt
      have x0 := keep_cell S.out.bel x0
      have x2 := keep_cell S.out.bel x2
      have hs1 := ownTo_succ (x := x) hlt
      clear hcell1 x1
      obtain ⟨⟨sw, sl, sh⟩, hs⟩ : ∃ s, t.snd[k] = s := ⟨_, rfl⟩
      rw [hs] at x0 x2 hs1
      clear hs
      dsimp only at x0 x2
      obtain ⟨m, hm⟩ : ∃ m, ownTo t x k = m := ⟨_, rfl⟩
      rw [hm] at hs1 ⊢
      clear hm
      unfold ownF at hs1
      dsimp only at hs1
      by_cases he : sw = x
      · rw [if_pos he] at hs1
        have HS1 := Lib.hid hs1
        have hq : (sw == x) = true := by rw [beq_iff_eq]; exact he
        clear he hs1
        go_wp2_with fail
        go_roundw
        case rel => exact ⟨k + 1, by omega, by rw [HS1.out]; first | rfl | (congr 1; omega) | (simp [Int.min_def]), by go_num, Lib.hid S.out.fix⟩
        case measure => first | (simp [intOf]; done) | (simp [intOf]; omega)
      · rw [if_neg he] at hs1
        have HS1 := Lib.hid hs1
        have hq : (sw == x) = false := by rw [beq_eq_false_iff_ne]; exact he
        clear he hs1
        go_wp2_with fail
        go_roundw
        case rel => exact ⟨k + 1, by omega, by rw [HS1.out], by go_num, Lib.hid S.out.fix⟩
        case measure => first | (simp [intOf]; done) | (simp [intOf]; omega)
    · have hki : ¬ (k : Int) < (t.snd.length : Int) := by omega
      have HK := Lib.hid (show k = t.snd.length by omega)
      have HE := Lib.hid (show at_ (baseM t) 6 x.toNat = ownTo t x k by rw [← own_eq HVL.out hx, ← HK.out])
      go_wp2_with fail
      go_ret
      exact ⟨by rw [HE.out]; rfl, S.out.bel⟩

set_option maxRecDepth 20000 in
set_option maxHeartbeats 8000000 in
theorem step_any (v : Value) (t : Twn) (x y : Int) (w : World) (hv : TwnAt w v t) (hvl : Vl t) (hl2 : t.slp.length ≤ 1000) (hx : 0 ≤ x ∧ x < t.wells) (hy : 0 ≤ y ∧ y < t.wells) (hxy : x ≠ y) :
    Calls Try.prog 86 #[v, I x, I y] w fun e w' => e = .returned (.tuple #[I (stepV (at_ (baseM t) x.toNat y.toNat)).1, .bool (stepV (at_ (baseM t) x.toNat y.toNat)).2]) ∧ Below w.heap.size w w' := by
  obtain ⟨sv, pv, rfl, hs, hp⟩ := hv
  obtain ⟨A1, c1, rfl, hsl1, hsl2, hc1⟩ := hs.open_
  obtain ⟨A2, c2, rfl, hpl1, hpl2, hc2⟩ := hp.open_
  have HSN := Lib.hid hs
  have HSP := Lib.hid hp
  have HC1 := Lib.hid hc1
  have HC2 := Lib.hid hc2
  clear hc1 hc2 hs hp
  have S := Lib.hid (show St w (w.alloc (.cells #[I t.wells, .slice A1 t.snd.length c1, .slice A2 t.slp.length c2] 25)) (w.heap.size + 1) [.box w.heap.size [I t.wells, .slice A1 t.snd.length c1, .slice A2 t.slp.length c2]] from (St.init w).alloc [I t.wells, .slice A1 t.snd.length c1, .slice A2 t.slp.length c2] 25)
  have HVL := Lib.hid hvl
  have HXY := Lib.hid hxy
  clear hxy
  go_enter Try.func86, Try.ntmps86
  go_wp2_with fail
  go_loopw [8, 9, 10] (fun u z i wr => ∃ (k : Nat) (n : Int) (is : Bool), k ≤ t.slp.length ∧ Hid (stepTo t x y k = (n, is)) ∧ u = I n ∧ z = .bool is ∧ i = I k ∧ Hid (St w wr wr.heap.size [.box w.heap.size [I t.wells, .slice A1 t.snd.length c1, .slice A2 t.slp.length c2]])) (fun _ _ i _ => t.slp.length - (intOf i).toNat)
  case atStart => exact ⟨0, 0, false, by omega, Lib.hid (by simp [stepTo]), rfl, rfl, rfl, Lib.hid S.out.fix⟩
  case round =>
    clear S
    obtain ⟨k, n, is, hk, HN, rfl, rfl, rfl, S⟩ := hrel
    have q2 := S.out.get 0 2 rfl rfl
    by_cases hlt : k < t.slp.length
    · have hki : (k : Int) < (t.slp.length : Int) := by omega
      obtain ⟨b1, o1, rfl, hb1, hcell1⟩ := HC2.out (by omega)
      obtain ⟨x0, x1, x2, x3⟩ := hcell1 k hlt
      have x0 := keep_cell S.out.bel x0
      have x1 := keep_cell S.out.bel x1
      have x2 := keep_cell S.out.bel x2
      have x3 := keep_cell S.out.bel x3
      have hs1 := stepTo_succ (x := x) (y := y) hlt
      have hs2 := HVL.out.slp t.slp[k] (List.getElem_mem hlt)
      have hnb := stepTo_bd HVL.out (x := x) (y := y) k hk
      rw [HN.out] at hs1 hnb
      dsimp only at hnb
      clear hcell1
      obtain ⟨⟨pa, pb, pl, ph⟩, hs⟩ : ∃ s, t.slp[k] = s := ⟨_, rfl⟩
      rw [hs] at x0 x1 x2 x3 hs1 hs2
      clear hs
      dsimp only at x0 x1 x2 x3 hs2
      obtain ⟨-, -, -, -, -, hs5, hs6, hs7⟩ := hs2
      have hlt0 := S.out.lt 0 rfl
      have S2 := Lib.hid (S.out.alloc [I pa, I pb, I pl, I ph] 47)
      cases e1 : (pa == x)
      · cases e3 : (pa == y)
        · have HS1 := Lib.hid (show stepTo t x y (k + 1) = (n, is) by rw [hs1]; simp [stepF, e1, e3])
          clear hs1
          go_wp2_with fail
          go_roundw
          case rel => exact ⟨k + 1, n, is, by omega, HS1, rfl, rfl, by go_num, Lib.hid S2.out.tail.fix⟩
          case measure => first | (simp [intOf]; done) | (simp [intOf]; omega)
        · cases e4 : (pb == x)
          · have HS1 := Lib.hid (show stepTo t x y (k + 1) = (n, is) by rw [hs1]; simp [stepF, e1, e3, e4])
            clear hs1
            go_wp2_with fail
            go_roundw
            case rel => exact ⟨k + 1, n, is, by omega, HS1, rfl, rfl, by go_num, Lib.hid S2.out.tail.fix⟩
            case measure => first | (simp [intOf]; done) | (simp [intOf]; omega)
          · cases is
            · have HS1 := Lib.hid (show stepTo t x y (k + 1) = (-pl, true) by rw [hs1]; simp [stepF, e3, e4, e1])
              clear hs1
              go_wp2_with fail
              go_roundw
              case rel => exact ⟨k + 1, -pl, true, by omega, HS1, rfl, rfl, by go_num, Lib.hid S2.out.tail.fix⟩
              case measure => first | (simp [intOf]; done) | (simp [intOf]; omega)
            · by_cases hc : -pl < n
              · have HS1 := Lib.hid (show stepTo t x y (k + 1) = (-pl, true) by rw [hs1]; simp [stepF, e3, e4, hc, e1])
                clear hs1
                go_wp2_with fail
                go_roundw
                case rel => exact ⟨k + 1, -pl, true, by omega, HS1, rfl, rfl, by go_num, Lib.hid S2.out.tail.fix⟩
                case measure => first | (simp [intOf]; done) | (simp [intOf]; omega)
              · have HS1 := Lib.hid (show stepTo t x y (k + 1) = (n, true) by rw [hs1]; simp [stepF, e3, e4, hc, e1])
                clear hs1
                go_wp2_with fail
                go_roundw
                case rel => exact ⟨k + 1, n, true, by omega, HS1, rfl, rfl, by go_num, Lib.hid S2.out.tail.fix⟩
                case measure => first | (simp [intOf]; done) | (simp [intOf]; omega)
      · have e3 : (pa == y) = false := by
          rw [beq_eq_false_iff_ne]
          have := eq_of_beq e1
          have := HXY.out
          omega
        cases e2 : (pb == y)
        · have HS1 := Lib.hid (show stepTo t x y (k + 1) = (n, is) by rw [hs1]; simp [stepF, e1, e2, e3])
          clear hs1
          go_wp2_with fail
          go_roundw
          case rel => exact ⟨k + 1, n, is, by omega, HS1, rfl, rfl, by go_num, Lib.hid S2.out.tail.fix⟩
          case measure => first | (simp [intOf]; done) | (simp [intOf]; omega)
        · cases is
          · have HS1 := Lib.hid (show stepTo t x y (k + 1) = (ph, true) by rw [hs1]; simp [stepF, e1, e2])
            clear hs1
            go_wp2_with fail
            go_roundw
            case rel => exact ⟨k + 1, ph, true, by omega, HS1, rfl, rfl, by go_num, Lib.hid S2.out.tail.fix⟩
            case measure => first | (simp [intOf]; done) | (simp [intOf]; omega)
          · by_cases hc : ph < n
            · have HS1 := Lib.hid (show stepTo t x y (k + 1) = (ph, true) by rw [hs1]; simp [stepF, e1, e2, hc])
              clear hs1
              go_wp2_with fail
              go_roundw
              case rel => exact ⟨k + 1, ph, true, by omega, HS1, rfl, rfl, by go_num, Lib.hid S2.out.tail.fix⟩
              case measure => first | (simp [intOf]; done) | (simp [intOf]; omega)
            · have HS1 := Lib.hid (show stepTo t x y (k + 1) = (n, true) by rw [hs1]; simp [stepF, e1, e2, hc, e3])
              clear hs1
              go_wp2_with fail
              go_roundw
              case rel => exact ⟨k + 1, n, true, by omega, HS1, rfl, rfl, by go_num, Lib.hid S2.out.tail.fix⟩
              case measure => first | (simp [intOf]; done) | (simp [intOf]; omega)
    · have hki : ¬ (k : Int) < (t.slp.length : Int) := by omega
      have HK := Lib.hid (show k = t.slp.length by omega)
      have HE := Lib.hid (show stepV (at_ (baseM t) x.toNat y.toNat) = (n, is) by rw [← step_eq HVL.out hx hy HXY.out, ← HK.out, HN.out])
      go_wp2_with fail
      go_ret2
      exact ⟨by rw [HE.out]; rfl, S.out.bel⟩

theorem ofN_getD (l : List Nat) (k : Nat) : (ofN l).getD k 0 = ((l.getD k 0 : Nat) : Int) := by
  simp only [ofN, List.getD_eq_getElem?_getD, List.getElem?_map]
  cases l[k]? <;> simp
theorem own_fin {t : Twn} (hv : Vl t) {l : List Nat} (h : Way t l) : finE (baseM t) 6 (l.take 1) = true := by
  have h0 := h.ne
  have h6 := hv.w6
  cases l with
  | nil => simp at h0
  | cons a m =>
    have ha := h.lt a (by simp)
    have := (own_eq hv (x := (a : Int)) (by omega)).symm
    have hle : ownTo t a t.snd.length ≤ 99 := by
      unfold ownTo
      have : ∀ (ss : List Snd) (n : Int), ss.foldl (ownF a) n ≤ n := by
        intro ss
        induction ss with
        | nil => intro n; exact Int.le_refl _
        | cons s ss ih =>
          intro n
          rw [List.foldl_cons]
          have h1 := ih (ownF a n s)
          have h2 : ownF a n s ≤ n := by unfold ownF; split <;> omega
          omega
      exact this _ _
    rw [Int.toNat_natCast] at this
    simp only [List.take_succ_cons, List.take_zero, finE, Bool.and_true, decide_eq_true_eq]
    omega

set_option maxRecDepth 20000 in
set_option maxHeartbeats 8000000 in
theorem follows_any (v lv : Value) (t : Twn) (l : List Nat) (w : World) (hv : TwnAt w v t) (hl : Ints w lv (ofN l)) (hvl : Vl t) (hl1 : t.snd.length ≤ 1000) (hl2 : t.slp.length ≤ 1000) (hw : Way t l) :
    Calls Try.prog 44 #[v, lv] w fun e w' => e = .returned (.tuple #[I (followsP (baseM t) l).1, .bool (followsP (baseM t) l).2]) ∧ Below w.heap.size w w' := by
  obtain ⟨sv, pv, rfl, hs, hp⟩ := hv
  obtain ⟨A1, c1, rfl, hsl1, hsl2, hc1⟩ := hs.open_
  obtain ⟨A2, c2, rfl, hpl1, hpl2, hc2⟩ := hp.open_
  have HSN := Lib.hid hs
  have HSP := Lib.hid hp
  have HC1 := Lib.hid hc1
  have HC2 := Lib.hid hc2
  clear hc1 hc2 hs hp
  obtain ⟨A3, c3, rfl, -, -, -⟩ := id hl.open_
  obtain ⟨-, hc3⟩ := hl.at_get rfl
  rw [show (ofN l).length = l.length by simp [ofN]] at hc3 ⊢
  obtain ⟨b3, o3, rfl, hb3, hcell3⟩ := hc3 hw.ne
  have HC3 := Lib.hid (fun k (hk : k < l.length) => show w.cell? ⟨b3, o3 + k, none⟩ = some (I ((l.getD k 0 : Nat) : Int)) from (by have h := hcell3 k hk; rw [ofN_getD] at h; exact h))
  clear hl hc3 hcell3
  have S := Lib.hid (show St w (w.alloc (.cells #[I t.wells, .slice A1 t.snd.length c1, .slice A2 t.slp.length c2] 25)) (w.heap.size + 1) [.box w.heap.size [I t.wells, .slice A1 t.snd.length c1, .slice A2 t.slp.length c2]] from (St.init w).alloc [I t.wells, .slice A1 t.snd.length c1, .slice A2 t.slp.length c2] 25)
  have HVL := Lib.hid hvl
  have HW := Lib.hid hw
  have hw0 := hw.ne
  have hw6 := hw.len
  have hbd := baseM_bd hvl
  have HBD := Lib.hid hbd
  have z0 := HC3.out 0 hw0
  rw [Nat.add_zero] at z0
  have HX0 := Lib.hid (show 0 ≤ ((l.getD 0 0 : Nat) : Int) ∧ ((l.getD 0 0 : Nat) : Int) < t.wells from ⟨by omega, hw.at_lt hw0⟩)
  have HS0 := Lib.hid (show sumE (baseM t) 6 (l.take 1) = at_ (baseM t) 6 (l.getD 0 0) by rw [getD_at hw0]; cases l with | nil => simp at hw0 | cons a m => simp [sumE])
  have HF0 := Lib.hid (own_fin hvl hw)
  obtain ⟨x, hx⟩ : ∃ x, ((l.getD 0 0 : Nat) : Int) = x := ⟨_, rfl⟩
  have HXN := Lib.hid (show l.getD 0 0 = x.toNat by omega)
  have HX0 := Lib.hid (show 0 ≤ x ∧ x < t.wells by rw [← hx]; exact HX0.out)
  rw [hx] at z0
  have HZ0 := Lib.hid z0
  clear hx z0 hw hbd
  go_enter Try.func44, Try.ntmps44
  go_wp2_with fail
  refine wp_region_seg [([0, 1, 2, 3], 4)] [5] [] 6 (by kernel_rfl) (by kernel_rfl) ?_
  intro KQ hKQ w1 hb
  have S := Lib.hid (S.out.call hb)
  clear hb
  have z0 := cell_regrown (keep_cell S.out.bel HZ0.out)
  have q0 := cell_regrown (S.out.get 0 0 rfl rfl)
  have q1 := cell_regrown (S.out.get 0 1 rfl rfl)
  have q2 := cell_regrown (S.out.get 0 2 rfl rfl)
  refine seg_next ?_
  simp only [opsAt, List.filterMap_cons, List.filterMap_nil, List.getElem?_toArray, List.getElem?_cons_succ, List.getElem?_cons_zero]
  repeat (first | go_big_quiet_step (fail) | quiet_step (fail))
  refine wpQuiet_nil ?_
  intro K hK
  refine loud_op rfl rfl ?_
  go_simp
  refine (own_any _ t _ _ ⟨_, _, rfl, HSN.out.below S.out.bel, HSP.out.below S.out.bel⟩ HVL.out hl1 HX0.out).mono ?_
  rintro e w2 ⟨rfl, hb⟩
  rw [← HXN.out, ← HS0.out]
  have S := Lib.hid (S.out.call hb)
  refine hK _ _ hb ?_
  clear hK K hb q0 q1 q2 z0
  refine seg_last ?_
  simp only [opsAt, List.filterMap_cons, List.filterMap_nil, List.getElem?_toArray, List.getElem?_cons_succ, List.getElem?_cons_zero]
  repeat (first | go_big_quiet_step (fail) | quiet_step (fail))
  refine wpQuiet_nil ?_
  go_wp2_with fail
  go_loopw [6, 7] (fun n i wr => ∃ k : Nat, 0 < k ∧ k ≤ l.length ∧ n = I (sumE (baseM t) 6 (l.take k)) ∧ i = I k ∧ Hid (finE (baseM t) 6 (l.take k) = true) ∧ Hid (St w wr wr.heap.size [.box w.heap.size [I t.wells, .slice A1 t.snd.length c1, .slice A2 t.slp.length c2]])) (fun _ i _ => l.length - (intOf i).toNat)
  case atStart => exact ⟨1, by omega, by omega, rfl, rfl, HF0, Lib.hid S.out.fix⟩
  case round =>
    clear S
    obtain ⟨k, hk0, hk, rfl, rfl, HF, S⟩ := hrel
    by_cases hlt : k < l.length
    · have hki : (k : Int) < (l.length : Int) := by omega
      have y0 := HC3.out (k - 1) (by omega)
      have y1 := HC3.out k hlt
      have hk2 : (k : Int) - 1 = ((k - 1 : Nat) : Int) := by omega
      have hk3 : IntKind.i64.wrap ((k - 1 : Nat) : Int) = ((k - 1 : Nat) : Int) := IntWalk.i64_in _ (by omega)
      have hk4 : ((k - 1 : Nat) : Int) < (l.length : Int) := by omega
      have hk5 : k - 1 < l.length := by omega
      have hfs := follow_succ (own := baseM t) hlt hk0
      have hbd := sum_bd HBD.out (l.take k) 6 (by omega) (fun x hx => by have := HW.out.lt x (List.mem_of_mem_take hx); have := HVL.out.w6; omega) HF.out
      have hlk : (l.take k).length ≤ 6 := by rw [List.length_take]; omega
      have hb1 := HBD.out.low (l.getD (k - 1) 0) (l.getD k 0) (by have := HW.out.at_lt (k := k - 1) (by omega); have := HVL.out.w6; omega) (by have := HW.out.at_lt hlt; have := HVL.out.w6; omega)
      have hb2 := HBD.out.high (l.getD (k - 1) 0) (l.getD k 0) (by have := HW.out.at_lt (k := k - 1) (by omega); have := HVL.out.w6; omega) (by have := HW.out.at_lt hlt; have := HVL.out.w6; omega)
      obtain ⟨m, hm⟩ : ∃ m, at_ (baseM t) (l.getD (k - 1) 0) (l.getD k 0) = m := ⟨_, rfl⟩
      rw [hm] at hfs hb1 hb2
      obtain ⟨s, hs⟩ : ∃ s, sumE (baseM t) 6 (l.take k) = s := ⟨_, rfl⟩
      rw [hs] at hfs hbd ⊢
      have HP1 := Lib.hid (show 0 ≤ ((l.getD (k - 1) 0 : Nat) : Int) ∧ ((l.getD (k - 1) 0 : Nat) : Int) < t.wells from ⟨by omega, HW.out.at_lt (by omega)⟩)
      have HP2 := Lib.hid (show 0 ≤ ((l.getD k 0 : Nat) : Int) ∧ ((l.getD k 0 : Nat) : Int) < t.wells from ⟨by omega, HW.out.at_lt hlt⟩)
      have HP3 := Lib.hid (show ((l.getD (k - 1) 0 : Nat) : Int) ≠ ((l.getD k 0 : Nat) : Int) from fun e => HW.out.ne_at hlt hk0 (by omega))
      obtain ⟨p, hp⟩ : ∃ p, ((l.getD (k - 1) 0 : Nat) : Int) = p := ⟨_, rfl⟩
      obtain ⟨q, hq⟩ : ∃ q, ((l.getD k 0 : Nat) : Int) = q := ⟨_, rfl⟩
      rw [hp] at y0 HP1 HP3
      rw [hq] at y1 HP2 HP3
      have HPN := Lib.hid (show p.toNat = l.getD (k - 1) 0 ∧ q.toNat = l.getD k 0 by omega)
      have HY0 := Lib.hid y0
      have HY1 := Lib.hid y1
      clear hp hq hs y0 y1
      obtain ⟨hf1, hf2⟩ := hfs
      have HF1 := Lib.hid hf1
      have HF2 := Lib.hid hf2
      have e0 : (0 : Int) ≤ ((l.take k).length : Int) := by omega
      clear hf1 hf2
      by_cases hc : m = 1048576
      · have HE := Lib.hid (show followsP (baseM t) l = (0, false) from if_neg (by rw [fin_pre (k := k + 1) (by rw [HF2.out, hc]; simp)]; simp))
        have HSV := Lib.hid (show stepV (at_ (baseM t) (l.getD (k - 1) 0) (l.getD k 0)) = (0, false) by rw [hm]; exact if_pos hc)
        clear hm hc
        go_wp2_with fail
        refine wp_region_seg [([0, 1, 2, 3, 4, 5, 6, 7, 8, 9], 10)] [11, 12, 13, 14, 15] [] 16 (by kernel_rfl) (by kernel_rfl) ?_
        intro KQ hKQ w1 hb
        have S := Lib.hid (S.out.call hb)
        have y0 := cell_regrown (keep_cell S.out.bel HY0.out)
        have y1 := cell_regrown (keep_cell S.out.bel HY1.out)
        clear hb
        have q0 := cell_regrown (S.out.get 0 0 rfl rfl)
        have q1 := cell_regrown (S.out.get 0 1 rfl rfl)
        have q2 := cell_regrown (S.out.get 0 2 rfl rfl)
        refine seg_next ?_
        simp only [opsAt, List.filterMap_cons, List.filterMap_nil, List.getElem?_toArray, List.getElem?_cons_succ, List.getElem?_cons_zero]
        repeat (first | go_big_quiet_step (fail) | quiet_step (fail))
        refine wpQuiet_nil ?_
        intro K hK
        refine loud_op rfl rfl ?_
        go_simp
        refine (step_any _ t _ _ _ ⟨_, _, rfl, HSN.out.below S.out.bel, HSP.out.below S.out.bel⟩ HVL.out hl2 HP1.out HP2.out HP3.out).mono ?_
        rintro e w2 ⟨rfl, hb⟩
        rw [HPN.out.1, HPN.out.2, HSV.out]
        have S := Lib.hid (S.out.call hb)
        refine hK _ _ hb ?_
        clear hK K hb q0 q1 q2 y0 y1
        refine seg_last ?_
        simp only [opsAt, List.filterMap_cons, List.filterMap_nil, List.getElem?_toArray, List.getElem?_cons_succ, List.getElem?_cons_zero]
        repeat (first | go_big_quiet_step (fail) | quiet_step (fail))
        refine wpQuiet_nil ?_
        go_wp2_with fail
        go_ret2
        exact ⟨by rw [HE.out]; rfl, S.out.bel⟩
      · have HFN := Lib.hid (show finE (baseM t) 6 (l.take (k + 1)) = true by rw [HF2.out, HF.out, decide_eq_true hc]; rfl)
        have hm9 : -99 ≤ m ∧ m ≤ 99 := by omega
        have HSV := Lib.hid (show stepV (at_ (baseM t) (l.getD (k - 1) 0) (l.getD k 0)) = (m, true) by rw [hm]; exact if_neg hc)
        clear hm hc
        go_wp2_with fail
        refine wp_region_seg [([0, 1, 2, 3, 4, 5, 6, 7, 8, 9], 10)] [11, 12, 13, 14, 15] [] 16 (by kernel_rfl) (by kernel_rfl) ?_
        intro KQ hKQ w1 hb
        have S := Lib.hid (S.out.call hb)
        have y0 := cell_regrown (keep_cell S.out.bel HY0.out)
        have y1 := cell_regrown (keep_cell S.out.bel HY1.out)
        clear hb
        have q0 := cell_regrown (S.out.get 0 0 rfl rfl)
        have q1 := cell_regrown (S.out.get 0 1 rfl rfl)
        have q2 := cell_regrown (S.out.get 0 2 rfl rfl)
        refine seg_next ?_
        simp only [opsAt, List.filterMap_cons, List.filterMap_nil, List.getElem?_toArray, List.getElem?_cons_succ, List.getElem?_cons_zero]
        repeat (first | go_big_quiet_step (fail) | quiet_step (fail))
        refine wpQuiet_nil ?_
        intro K hK
        refine loud_op rfl rfl ?_
        go_simp
        refine (step_any _ t _ _ _ ⟨_, _, rfl, HSN.out.below S.out.bel, HSP.out.below S.out.bel⟩ HVL.out hl2 HP1.out HP2.out HP3.out).mono ?_
        rintro e w2 ⟨rfl, hb⟩
        rw [HPN.out.1, HPN.out.2, HSV.out]
        have S := Lib.hid (S.out.call hb)
        refine hK _ _ hb ?_
        clear hK K hb q0 q1 q2 y0 y1
        refine seg_last ?_
        simp only [opsAt, List.filterMap_cons, List.filterMap_nil, List.getElem?_toArray, List.getElem?_cons_succ, List.getElem?_cons_zero]
        repeat (first | go_big_quiet_step (fail) | quiet_step (fail))
        refine wpQuiet_nil ?_
        go_wp2_with fail
        go_roundw
        case rel => exact ⟨k + 1, by omega, by omega, by rw [HF1.out], by go_num, HFN, Lib.hid S.out.fix⟩
        case measure => first | (simp [intOf]; done) | (simp [intOf]; omega)
    · have hki : ¬ (k : Int) < (l.length : Int) := by omega
      have HE := Lib.hid (show followsP (baseM t) l = (sumE (baseM t) 6 (l.take k), true) by
        have h := HF.out
        rw [List.take_of_length_le (by omega)] at h ⊢
        exact if_pos h)
      obtain ⟨s, hs⟩ : ∃ s, sumE (baseM t) 6 (l.take k) = s := ⟨_, rfl⟩
      rw [hs] at HE ⊢
      clear hs
      go_wp2_with fail
      go_ret2
      exact ⟨by rw [HE.out]; rfl, S.out.bel⟩

end Go.Proofs.Ytplbaijdnpfdgaa
