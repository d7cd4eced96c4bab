/- Walks of the reference: Own, Step, Follows. -/
import Derived.Test.YtplbaijdnpfdgaaV9
namespace Go.Proofs.Ytplbaijdnpfdgaa
open Go.RowKit Go.Sort

def ownF (x : Int) (n : Int) (s : Snd) : Int := if s.well = x then min n s.high else n
def ownTo (t : Twn) (x : Int) (k : Nat) : Int := (t.snd.take k).foldl (ownF x) 99
theorem ownTo_succ {t : Twn} {x : Int} {k : Nat} (h : k < t.snd.length) : ownTo t x (k + 1) = ownF x (ownTo t x k) t.snd[k] := by
  rw [ownTo, List.take_succ_eq_append_getElem h, List.foldl_append]
  rfl
theorem rockTo_own {w : Nat} (hw : w < 6) : ∀ n, n ≤ 6 → at_ (rockTo rock0 n) 6 w = if w < n then 99 else 1048576
  | 0, _ => by
    have : w = 0 ∨ w = 1 ∨ w = 2 ∨ w = 3 ∨ w = 4 ∨ w = 5 := by omega
    rcases this with rfl | rfl | rfl | rfl | rfl | rfl <;> decide
  | n + 1, h => by
    have ih := rockTo_own hw n (by omega)
    have l1 : (rockTo rock0 n).length = 49 := by rw [rockTo_len]; rfl
    rw [rockTo, at_leave _ _ _ _ _ _ (by rw [leave_len]; exact l1) (by omega) (by omega) (by omega), if_neg (by omega), at_leave _ _ _ _ _ _ l1 (by omega) (by omega) (by omega)]
    by_cases e : w = n
    · subst e
      rw [if_pos ⟨rfl, rfl⟩, ih, if_neg (by omega), if_pos (by omega)]
      rfl
    · rw [if_neg (by omega), ih]
      by_cases h1 : w < n
      · rw [if_pos h1, if_pos (by omega)]
      · rw [if_neg h1, if_neg (by omega)]
theorem rockTo_out {a b : Nat} (ha : a < 6) (hb : b < 6) (hab : a ≠ b) : ∀ n, n ≤ 6 → at_ (rockTo rock0 n) a b = 1048576
  | 0, _ => by
    have h1 : a = 0 ∨ a = 1 ∨ a = 2 ∨ a = 3 ∨ a = 4 ∨ a = 5 := by omega
    have h2 : b = 0 ∨ b = 1 ∨ b = 2 ∨ b = 3 ∨ b = 4 ∨ b = 5 := by omega
    rcases h1 with rfl | rfl | rfl | rfl | rfl | rfl <;> rcases h2 with rfl | rfl | rfl | rfl | rfl | rfl <;> first | (exact absurd rfl hab) | decide
  | n + 1, h => by
    have ih := rockTo_out ha hb hab n (by omega)
    have l1 : (rockTo rock0 n).length = 49 := by rw [rockTo_len]; rfl
    rw [rockTo, at_leave _ _ _ _ _ _ (by rw [leave_len]; exact l1) (by omega) (by omega) (by omega), if_neg (by omega), at_leave _ _ _ _ _ _ l1 (by omega) (by omega) (by omega), if_neg (by omega), ih]
theorem sounds_own {x : Int} (hx : 0 ≤ x ∧ x < 6) : ∀ (ss : List Snd) (ms : List Int), ms.length = 49 → (∀ s ∈ ss, 0 ≤ s.well ∧ s.well < 6) → at_ (ss.foldl soundM ms) 6 x.toNat = ss.foldl (ownF x) (at_ ms 6 x.toNat)
  | [], _, _, _ => rfl
  | s :: ss, ms, hl, hb => by
    have h1 := hb s (by simp)
    rw [List.foldl_cons, List.foldl_cons, sounds_own hx ss _ (by rw [soundM_len, hl]) fun u hu => hb u (List.mem_cons_of_mem _ hu)]
    congr 1
    rw [soundM, at_leave _ _ _ _ _ _ (by rw [leave_len]; exact hl) (by omega) (by omega) (by omega), if_neg (by omega), at_leave _ _ _ _ _ _ hl (by omega) (by omega) (by omega)]
    unfold ownF
    by_cases e : s.well = x
    · rw [if_pos ⟨rfl, by rw [e]⟩, if_pos e, e]
    · rw [if_neg (by omega), if_neg e]
theorem sounds_out {a b : Nat} (ha : a < 6) (hb : b < 6) : ∀ (ss : List Snd) (ms : List Int), ms.length = 49 → (∀ s ∈ ss, 0 ≤ s.well ∧ s.well < 6) → at_ (ss.foldl soundM ms) a b = at_ ms a b
  | [], _, _, _ => rfl
  | s :: ss, ms, hl, h => by
    have h1 := h s (by simp)
    rw [List.foldl_cons, sounds_out ha hb ss _ (by rw [soundM_len, hl]) fun u hu => h u (List.mem_cons_of_mem _ hu), soundM, at_leave _ _ _ _ _ _ (by rw [leave_len]; exact hl) (by omega) (by omega) (by omega), if_neg (by omega), at_leave _ _ _ _ _ _ hl (by omega) (by omega) (by omega), if_neg (by omega)]
theorem slopes_own {x : Nat} : ∀ (ss : List Slp) (ms : List Int), ms.length = 49 → x < 6 → (∀ s ∈ ss, 0 ≤ s.a ∧ s.a < 6 ∧ 0 ≤ s.b ∧ s.b < 6) → at_ (ss.foldl slopeM ms) 6 x = at_ ms 6 x
  | [], _, _, _, _ => rfl
  | s :: ss, ms, hl, hx, h => by
    have h1 := h s (by simp)
    rw [List.foldl_cons, slopes_own ss _ (by rw [slopeM_len, hl]) hx fun u hu => h u (List.mem_cons_of_mem _ hu), slopeM, at_leave _ _ _ _ _ _ (by rw [leave_len]; exact hl) (by omega) (by omega) (by omega), if_neg (by omega), at_leave _ _ _ _ _ _ hl (by omega) (by omega) (by omega), if_neg (by omega)]
theorem own_eq {t : Twn} (hv : Vl t) {x : Int} (hx : 0 ≤ x ∧ x < t.wells) : ownTo t x t.snd.length = at_ (baseM t) 6 x.toNat := by
  have h6 := hv.w6
  rw [baseM, slopes_own _ _ (by rw [sounds_len, rock_len]) (by omega) fun s hs => by have := hv.slp' s hs; omega, sounds_own (by omega) _ _ (rock_len _) fun s hs => by have := hv.snd' s hs; omega, rock, rockTo_own (by omega) _ (by omega), if_pos (by omega), ownTo, List.take_length]
def stepF (x y : Int) (p : Int × Bool) (s : Slp) : Int × Bool :=
  if (s.a == x && s.b == y && (!p.2 || decide (s.high < p.1))) = true then (s.high, true) else if (s.a == y && s.b == x && (!p.2 || decide (-s.low < p.1))) = true then (-s.low, true) else p
def stepTo (t : Twn) (x y : Int) (k : Nat) : Int × Bool := (t.slp.take k).foldl (stepF x y) (0, false)
theorem stepTo_succ {t : Twn} {x y : Int} {k : Nat} (h : k < t.slp.length) : stepTo t x y (k + 1) = stepF x y (stepTo t x y k) t.slp[k] := by
  rw [stepTo, List.take_succ_eq_append_getElem h, List.foldl_append]
  rfl
def stepV (m : Int) : Int × Bool := if m = 1048576 then (0, false) else (m, true)
theorem stepF_eq {x y : Int} (hx : 0 ≤ x ∧ x < 6) (hy : 0 ≤ y ∧ y < 6) (hxy : x ≠ y) {s : Slp} (hs : 0 ≤ s.a ∧ s.a < 6 ∧ 0 ≤ s.b ∧ s.b < 6 ∧ s.a ≠ s.b ∧ -99 ≤ s.low ∧ s.low ≤ s.high ∧ s.high ≤ 99) {ms : List Int} (hl : ms.length = 49) (hm : at_ ms x.toNat y.toNat ≤ 1048576) : stepF x y (stepV (at_ ms x.toNat y.toNat)) s = stepV (at_ (slopeM ms s) x.toNat y.toNat) := by
  obtain ⟨sa, sb, sl, sh⟩ := s
  dsimp only at hs
  have e2 := at_leave (leave ms sa.toNat sb.toNat sh) sb.toNat sa.toNat x.toNat y.toNat (-sl) (by rw [leave_len]; exact hl) (by omega) (by omega) (by omega)
  have e0 := at_leave ms sa.toNat sb.toNat x.toNat y.toNat sh hl (by omega) (by omega) (by omega)
  have e1 := at_leave ms sa.toNat sb.toNat sb.toNat sa.toNat sh hl (by omega) (by omega) (by omega)
  rw [if_neg (by omega)] at e1
  rw [e1, e0] at e2
  unfold slopeM
  dsimp only
  rw [e2]
  clear e0 e1 e2
  unfold stepF
  dsimp only
  by_cases h1 : sa = x ∧ sb = y
  · obtain ⟨rfl, rfl⟩ := h1
    rw [if_neg (show ¬ (sa.toNat = sb.toNat ∧ sb.toNat = sa.toNat) by omega), if_pos (show sa.toNat = sa.toNat ∧ sb.toNat = sb.toNat from ⟨rfl, rfl⟩)]
    obtain ⟨m, hm'⟩ : ∃ m, at_ ms sa.toNat sb.toNat = m := ⟨_, rfl⟩
    rw [hm'] at hm ⊢
    have b3 : (sa == sb) = false := by rw [beq_eq_false_iff_ne]; omega
    unfold stepV
    by_cases h2 : m = 1048576
    · rw [if_pos h2, show min m sh = sh by omega, if_neg (show ¬ sh = 1048576 by omega)]
      simp
    · rw [if_neg h2]
      by_cases h3 : sh < m
      · rw [show min m sh = sh by omega, if_neg (show ¬ sh = 1048576 by omega)]
        simp [h3]
      · rw [show min m sh = m by omega, if_neg h2]
        simp [h3, b3]
  · by_cases h4 : sa = y ∧ sb = x
    · obtain ⟨rfl, rfl⟩ := h4
      rw [if_pos (show sb.toNat = sb.toNat ∧ sa.toNat = sa.toNat from ⟨rfl, rfl⟩)]
      obtain ⟨m, hm'⟩ : ∃ m, at_ ms sb.toNat sa.toNat = m := ⟨_, rfl⟩
      rw [hm'] at hm ⊢
      have b3 : (sa == sb) = false := by rw [beq_eq_false_iff_ne]; omega
      unfold stepV
      by_cases h2 : m = 1048576
      · rw [if_pos h2, show min m (-sl) = -sl by omega, if_neg (show ¬ -sl = 1048576 by omega)]
        simp [b3]
      · rw [if_neg h2]
        by_cases h3 : -sl < m
        · rw [show min m (-sl) = -sl by omega, if_neg (show ¬ -sl = 1048576 by omega)]
          simp [h3, b3]
        · rw [show min m (-sl) = m by omega, if_neg h2]
          simp [h3, b3]
    · have b1 : (sa == x && sb == y) = false := by
        rw [Bool.and_eq_false_iff, beq_eq_false_iff_ne, beq_eq_false_iff_ne]
        by_cases e : sa = x
        · exact .inr fun e' => h1 ⟨e, e'⟩
        · exact .inl e
      have b2 : (sa == y && sb == x) = false := by
        rw [Bool.and_eq_false_iff, beq_eq_false_iff_ne, beq_eq_false_iff_ne]
        by_cases e : sa = y
        · exact .inr fun e' => h4 ⟨e, e'⟩
        · exact .inl e
      rw [b1, b2, if_neg (show ¬ (x.toNat = sb.toNat ∧ y.toNat = sa.toNat) by omega), if_neg (show ¬ (x.toNat = sa.toNat ∧ y.toNat = sb.toNat) by omega)]
      simp
theorem steps_eq {x y : Int} (hx : 0 ≤ x ∧ x < 6) (hy : 0 ≤ y ∧ y < 6) (hxy : x ≠ y) : ∀ (ss : List Slp) (ms : List Int), ms.length = 49 → Top ms → (∀ s ∈ ss, 0 ≤ s.a ∧ s.a < 6 ∧ 0 ≤ s.b ∧ s.b < 6 ∧ s.a ≠ s.b ∧ -99 ≤ s.low ∧ s.low ≤ s.high ∧ s.high ≤ 99) → ss.foldl (stepF x y) (stepV (at_ ms x.toNat y.toNat)) = stepV (at_ (ss.foldl slopeM ms) x.toNat y.toNat)
  | [], _, _, _, _ => rfl
  | s :: ss, ms, hl, ht, h => by
    have h1 := h s (by simp)
    rw [List.foldl_cons, List.foldl_cons, stepF_eq hx hy hxy h1 hl (ht.2 _ _ (by omega) (by omega))]
    exact steps_eq hx hy hxy ss _ (by rw [slopeM_len, hl]) (slopeM_top ht (by omega) (by omega) (by omega) (by omega)) fun u hu => h u (List.mem_cons_of_mem _ hu)
theorem step_eq {t : Twn} (hv : Vl t) {x y : Int} (hx : 0 ≤ x ∧ x < t.wells) (hy : 0 ≤ y ∧ y < t.wells) (hxy : x ≠ y) : stepTo t x y t.slp.length = stepV (at_ (baseM t) x.toNat y.toNat) := by
  have h6 := hv.w6
  have hr : at_ (t.snd.foldl soundM (rock t.wells)) x.toNat y.toNat = 1048576 := by
    rw [sounds_out (by omega) (by omega) _ _ (rock_len _) fun s hs => by have := hv.snd' s hs; omega, rock, rockTo_out (by omega) (by omega) (by omega) _ (by omega)]
  have h := steps_eq (x := x) (y := y) (by omega) (by omega) hxy t.slp (t.snd.foldl soundM (rock t.wells)) (by rw [sounds_len, rock_len]) (sounds_sol (x := fun _ => 0) t.snd (rock t.wells) (rockTo_top _ (by omega)) hv.snd').1 fun s hs => by have := hv.slp s hs; omega
  rw [hr, show stepV 1048576 = (0, false) from rfl] at h
  rw [stepTo, List.take_length, h, baseM]
theorem stepTo_bd {t : Twn} (hv : Vl t) {x y : Int} : ∀ k, k ≤ t.slp.length → -99 ≤ (stepTo t x y k).1 ∧ (stepTo t x y k).1 ≤ 99
  | 0, _ => by simp [stepTo]
  | k + 1, h => by
    have ih := stepTo_bd hv (x := x) (y := y) k (by omega)
    rw [stepTo_succ (by omega)]
    have := hv.slp _ (List.getElem_mem (show k < t.slp.length by omega))
    unfold stepF
    split
    · dsimp only; omega
    · split
      · dsimp only; omega
      · exact ih
theorem finE_append {own : List Int} : ∀ (m1 m2 l : List Nat), finE own (lastW l) (m1 ++ m2) = (finE own (lastW l) m1 && finE own (lastW (l ++ m1)) m2)
  | [], m2, l => by simp [finE]
  | w :: m1, m2, l => by
    have ih := finE_append (own := own) m1 m2 (l ++ [w])
    rw [lastW_snoc] at ih
    have e : l ++ [w] ++ m1 = l ++ w :: m1 := by simp
    rw [e] at ih
    rw [List.cons_append, finE, finE, ih, Bool.and_assoc]
theorem take_last {l : List Nat} {k : Nat} (h : k < l.length) (hk : 0 < k) : lastW (l.take k) = l.getD (k - 1) 0 := by
  obtain ⟨j, rfl⟩ : ∃ j, k = j + 1 := ⟨k - 1, by omega⟩
  rw [List.take_succ_eq_append_getElem (by omega), lastW_snoc, Nat.add_sub_cancel, getD_at (by omega)]
theorem follow_succ {own : List Int} {l : List Nat} {k : Nat} (h : k < l.length) (hk : 0 < k) : sumE own 6 (l.take (k + 1)) = sumE own 6 (l.take k) + at_ own (l.getD (k - 1) 0) (l.getD k 0) ∧ finE own 6 (l.take (k + 1)) = (finE own 6 (l.take k) && decide (at_ own (l.getD (k - 1) 0) (l.getD k 0) ≠ 1048576)) := by
  have h1 := sumE_append (own := own) (l.take k) [l[k]] []
  have h2 := finE_append (own := own) (l.take k) [l[k]] []
  rw [show lastW [] = 6 from rfl, List.nil_append, take_last h hk] at h1 h2
  rw [List.take_succ_eq_append_getElem h, h1, h2, getD_at h]
  simp [sumE, finE]
theorem fin_pre {own : List Int} {l : List Nat} {k : Nat} (h : finE own 6 (l.take k) = false) : finE own 6 l = false := by
  have h2 := finE_append (own := own) (l.take k) (l.drop k) []
  rw [List.take_append_drop, show lastW [] = 6 from rfl, h] at h2
  rw [h2]; rfl
theorem sum_bd {own : List Int} (h : Bd 99 99 own) : ∀ (m : List Nat) (p : Nat), p < 7 → (∀ x ∈ m, x < 7) → finE own p m = true → -99 * (m.length : Int) ≤ sumE own p m ∧ sumE own p m ≤ 99 * (m.length : Int)
  | [], _, _, _, _ => by simp [sumE]
  | w :: m, p, hp, hb, hf => by
    rw [finE, Bool.and_eq_true, decide_eq_true_eq] at hf
    have hw := hb w (by simp)
    have ih := sum_bd h m w hw (fun x hx => hb x (List.mem_cons_of_mem _ hx)) hf.2
    have h1 := h.low p w hp hw
    have h2 := h.high p w hp hw
    rw [sumE, List.length_cons]
    omega
/-- A list whose lengths are asked. -/
structure Way (t : Twn) (l : List Nat) : Prop where
  ne : 0 < l.length
  len : l.length ≤ 6
  lt : ∀ x ∈ l, (x : Int) < t.wells
  nodup : l.Nodup
theorem Way.at_lt {t : Twn} {l : List Nat} (h : Way t l) {k : Nat} (hk : k < l.length) : ((l.getD k 0 : Nat) : Int) < t.wells := by rw [getD_at hk]; exact h.lt _ (List.getElem_mem hk)
theorem Way.ne_at {t : Twn} {l : List Nat} (h : Way t l) {k : Nat} (hk : k < l.length) (h0 : 0 < k) : l.getD (k - 1) 0 ≠ l.getD k 0 := by
  rw [getD_at hk, getD_at (by omega)]
  intro e
  exact List.pairwise_iff_getElem.1 h.nodup (k - 1) k (by omega) hk (by omega) e

set_option maxRecDepth 20000 in
set_option maxHeartbeats 4000000 in
theorem own_any (v : Value) (t : Twn) (x : Int) (w : World) (hv : TwnAt w v t) (hvl : Vl t) (hl1 : t.snd.length ≤ 1000) (hx : 0 ≤ x ∧ x < t.wells) :
    Calls Try.prog 85 #[v, I x] w fun e w' => e = .returned (I (at_ (baseM t) 6 x.toNat)) ∧ Below w.heap.size w w' := by
  obtain ⟨sv, pv, rfl, hs, hp⟩ := hv
  obtain ⟨A1, c1, rfl, hsl1, hsl2, hc1⟩ := hs.open_
  obtain ⟨A2, c2, rfl, hpl1, hpl2, hc2⟩ := hp.open_
  have HSN := Lib.hid hs
  have HSP := Lib.hid hp
  have HC1 := Lib.hid hc1
  have HC2 := Lib.hid hc2
  clear hc1 hc2 hs hp
  have S := Lib.hid (show St w (w.alloc (.cells #[I t.wells, .slice A1 t.snd.length c1, .slice A2 t.slp.length c2] 25)) (w.heap.size + 1) [.box w.heap.size [I t.wells, .slice A1 t.snd.length c1, .slice A2 t.slp.length c2]] from (St.init w).alloc [I t.wells, .slice A1 t.snd.length c1, .slice A2 t.slp.length c2] 25)
  have HVL := Lib.hid hvl
  go_enter Try.func85, Try.ntmps85
  go_wp2_with fail
  go_loopw [5, 6] (fun n i wr => ∃ k : Nat, k ≤ t.snd.length ∧ n = I (ownTo t x k) ∧ i = I k ∧ Hid (St w wr wr.heap.size [.box w.heap.size [I t.wells, .slice A1 t.snd.length c1, .slice A2 t.slp.length c2]])) (fun _ i _ => t.snd.length - (intOf i).toNat)
  case atStart => exact ⟨0, by omega, rfl, rfl, Lib.hid S.out.fix⟩
  case round =>
    clear S
    obtain ⟨k, hk, rfl, rfl, S⟩ := hrel
    have q1 := S.out.get 0 1 rfl rfl
    by_cases hlt : k < t.snd.length
    · have hki : (k : Int) < (t.snd.length : Int) := by omega
      obtain ⟨b1, o1, rfl, hb1, hcell1⟩ := HC1.out (by omega)
      obtain ⟨x0, x1, x2⟩ := hcell1 k hlt
      have x0 := keep_cell S.out.bel x0
      have x2 := keep_cell S.out.bel x2
      have hs1 := ownTo_succ (x := x) hlt
      clear hcell1 x1
      obtain ⟨⟨sw, sl, sh⟩, hs⟩ : ∃ s, t.snd[k] = s := ⟨_, rfl⟩
      rw [hs] at x0 x2 hs1
      clear hs
      dsimp only at x0 x2
      obtain ⟨m, hm⟩ : ∃ m, ownTo t x k = m := ⟨_, rfl⟩
      rw [hm] at hs1 ⊢
      clear hm
      unfold ownF at hs1
      dsimp only at hs1
      by_cases he : sw = x
      · rw [if_pos he] at hs1
        have HS1 := Lib.hid hs1
        have hq : (sw == x) = true := by rw [beq_iff_eq]; exact he
        clear he hs1
        go_wp2_with fail
        go_roundw
        case rel => exact ⟨k + 1, by omega, by rw [HS1.out]; first | rfl | (congr 1; omega) | (simp [Int.min_def]), by go_num, Lib.hid S.out.fix⟩
        case measure => first | (simp [intOf]; done) | (simp [intOf]; omega)
      · rw [if_neg he] at hs1
        have HS1 := Lib.hid hs1
        have hq : (sw == x) = false := by rw [beq_eq_false_iff_ne]; exact he
        clear he hs1
        go_wp2_with fail
        go_roundw
        case rel => exact ⟨k + 1, by omega, by rw [HS1.out], by go_num, Lib.hid S.out.fix⟩
        case measure => first | (simp [intOf]; done) | (simp [intOf]; omega)
    · have hki : ¬ (k : Int) < (t.snd.length : Int) := by omega
      have HK := Lib.hid (show k = t.snd.length by omega)
      have HE := Lib.hid (show at_ (baseM t) 6 x.toNat = ownTo t x k by rw [← own_eq HVL.out hx, ← HK.out])
      go_wp2_with fail
      go_ret
      exact ⟨by rw [HE.out]; rfl, S.out.bel⟩

set_option maxRecDepth 20000 in
set_option maxHeartbeats 8000000 in
theorem step_any (v : Value) (t : Twn) (x y : Int) (w : World) (hv : TwnAt w v t) (hvl : Vl t) (hl2 : t.slp.length ≤ 1000) (hx : 0 ≤ x ∧ x < t.wells) (hy : 0 ≤ y ∧ y < t.wells) (hxy : x ≠ y) :
    Calls Try.prog 86 #[v, I x, I y] w fun e w' => e = .returned (.tuple #[I (stepV (at_ (baseM t) x.toNat y.toNat)).1, .bool (stepV (at_ (baseM t) x.toNat y.toNat)).2]) ∧ Below w.heap.size w w' := by
  obtain ⟨sv, pv, rfl, hs, hp⟩ := hv
  obtain ⟨A1, c1, rfl, hsl1, hsl2, hc1⟩ := hs.open_
  obtain ⟨A2, c2, rfl, hpl1, hpl2, hc2⟩ := hp.open_
  have HSN := Lib.hid hs
  have HSP := Lib.hid hp
  have HC1 := Lib.hid hc1
  have HC2 := Lib.hid hc2
  clear hc1 hc2 hs hp
  have S := Lib.hid (show St w (w.alloc (.cells #[I t.wells, .slice A1 t.snd.length c1, .slice A2 t.slp.length c2] 25)) (w.heap.size + 1) [.box w.heap.size [I t.wells, .slice A1 t.snd.length c1, .slice A2 t.slp.length c2]] from (St.init w).alloc [I t.wells, .slice A1 t.snd.length c1, .slice A2 t.slp.length c2] 25)
  have HVL := Lib.hid hvl
  have HXY := Lib.hid hxy
  clear hxy
  go_enter Try.func86, Try.ntmps86
  go_wp2_with fail
  go_loopw [8, 9, 10] (fun u z i wr => ∃ (k : Nat) (n : Int) (is : Bool), k ≤ t.slp.length ∧ Hid (stepTo t x y k = (n, is)) ∧ u = I n ∧ z = .bool is ∧ i = I k ∧ Hid (St w wr wr.heap.size [.box w.heap.size [I t.wells, .slice A1 t.snd.length c1, .slice A2 t.slp.length c2]])) (fun _ _ i _ => t.slp.length - (intOf i).toNat)
  case atStart => exact ⟨0, 0, false, by omega, Lib.hid (by simp [stepTo]), rfl, rfl, rfl, Lib.hid S.out.fix⟩
  case round =>
    clear S
    obtain ⟨k, n, is, hk, HN, rfl, rfl, rfl, S⟩ := hrel
    have q2 := S.out.get 0 2 rfl rfl
    by_cases hlt : k < t.slp.length
    · have hki : (k : Int) < (t.slp.length : Int) := by omega
      obtain ⟨b1, o1, rfl, hb1, hcell1⟩ := HC2.out (by omega)
      obtain ⟨x0, x1, x2, x3⟩ := hcell1 k hlt
      have x0 := keep_cell S.out.bel x0
      have x1 := keep_cell S.out.bel x1
      have x2 := keep_cell S.out.bel x2
      have x3 := keep_cell S.out.bel x3
      have hs1 := stepTo_succ (x := x) (y := y) hlt
      have hs2 := HVL.out.slp t.slp[k] (List.getElem_mem hlt)
      have hnb := stepTo_bd HVL.out (x := x) (y := y) k hk
      rw [HN.out] at hs1 hnb
      dsimp only at hnb
      clear hcell1
      obtain ⟨⟨pa, pb, pl, ph⟩, hs⟩ : ∃ s, t.slp[k] = s := ⟨_, rfl⟩
      rw [hs] at x0 x1 x2 x3 hs1 hs2
      clear hs
      dsimp only at x0 x1 x2 x3 hs2
      obtain ⟨-, -, -, -, -, hs5, hs6, hs7⟩ := hs2
      have hlt0 := S.out.lt 0 rfl
      have S2 := Lib.hid (S.out.alloc [I pa, I pb, I pl, I ph] 47)
      cases e1 : (pa == x)
      · cases e3 : (pa == y)
        · have HS1 := Lib.hid (show stepTo t x y (k + 1) = (n, is) by rw [hs1]; simp [stepF, e1, e3])
          clear hs1
          go_wp2_with fail
          go_roundw
          case rel => exact ⟨k + 1, n, is, by omega, HS1, rfl, rfl, by go_num, Lib.hid S2.out.tail.fix⟩
          case measure => first | (simp [intOf]; done) | (simp [intOf]; omega)
        · cases e4 : (pb == x)
          · have HS1 := Lib.hid (show stepTo t x y (k + 1) = (n, is) by rw [hs1]; simp [stepF, e1, e3, e4])
            clear hs1
            go_wp2_with fail
            go_roundw
            case rel => exact ⟨k + 1, n, is, by omega, HS1, rfl, rfl, by go_num, Lib.hid S2.out.tail.fix⟩
            case measure => first | (simp [intOf]; done) | (simp [intOf]; omega)
          · cases is
            · have HS1 := Lib.hid (show stepTo t x y (k + 1) = (-pl, true) by rw [hs1]; simp [stepF, e3, e4, e1])
              clear hs1
              go_wp2_with fail
              go_roundw
              case rel => exact ⟨k + 1, -pl, true, by omega, HS1, rfl, rfl, by go_num, Lib.hid S2.out.tail.fix⟩
              case measure => first | (simp [intOf]; done) | (simp [intOf]; omega)
            · by_cases hc : -pl < n
              · have HS1 := Lib.hid (show stepTo t x y (k + 1) = (-pl, true) by rw [hs1]; simp [stepF, e3, e4, hc, e1])
                clear hs1
                go_wp2_with fail
                go_roundw
                case rel => exact ⟨k + 1, -pl, true, by omega, HS1, rfl, rfl, by go_num, Lib.hid S2.out.tail.fix⟩
                case measure => first | (simp [intOf]; done) | (simp [intOf]; omega)
              · have HS1 := Lib.hid (show stepTo t x y (k + 1) = (n, true) by rw [hs1]; simp [stepF, e3, e4, hc, e1])
                clear hs1
                go_wp2_with fail
                go_roundw
                case rel => exact ⟨k + 1, n, true, by omega, HS1, rfl, rfl, by go_num, Lib.hid S2.out.tail.fix⟩
                case measure => first | (simp [intOf]; done) | (simp [intOf]; omega)
      · have e3 : (pa == y) = false := by
          rw [beq_eq_false_iff_ne]
          have := eq_of_beq e1
          have := HXY.out
          omega
        cases e2 : (pb == y)
        · have HS1 := Lib.hid (show stepTo t x y (k + 1) = (n, is) by rw [hs1]; simp [stepF, e1, e2, e3])
          clear hs1
          go_wp2_with fail
          go_roundw
          case rel => exact ⟨k + 1, n, is, by omega, HS1, rfl, rfl, by go_num, Lib.hid S2.out.tail.fix⟩
          case measure => first | (simp [intOf]; done) | (simp [intOf]; omega)
        · cases is
          · have HS1 := Lib.hid (show stepTo t x y (k + 1) = (ph, true) by rw [hs1]; simp [stepF, e1, e2])
            clear hs1
            go_wp2_with fail
            go_roundw
            case rel => exact ⟨k + 1, ph, true, by omega, HS1, rfl, rfl, by go_num, Lib.hid S2.out.tail.fix⟩
            case measure => first | (simp [intOf]; done) | (simp [intOf]; omega)
          · by_cases hc : ph < n
            · have HS1 := Lib.hid (show stepTo t x y (k + 1) = (ph, true) by rw [hs1]; simp [stepF, e1, e2, hc])
              clear hs1
              go_wp2_with fail
              go_roundw
              case rel => exact ⟨k + 1, ph, true, by omega, HS1, rfl, rfl, by go_num, Lib.hid S2.out.tail.fix⟩
              case measure => first | (simp [intOf]; done) | (simp [intOf]; omega)
            · have HS1 := Lib.hid (show stepTo t x y (k + 1) = (n, true) by rw [hs1]; simp [stepF, e1, e2, hc, e3])
              clear hs1
              go_wp2_with fail
              go_roundw
              case rel => exact ⟨k + 1, n, true, by omega, HS1, rfl, rfl, by go_num, Lib.hid S2.out.tail.fix⟩
              case measure => first | (simp [intOf]; done) | (simp [intOf]; omega)
    · have hki : ¬ (k : Int) < (t.slp.length : Int) := by omega
      have HK := Lib.hid (show k = t.slp.length by omega)
      have HE := Lib.hid (show stepV (at_ (baseM t) x.toNat y.toNat) = (n, is) by rw [← step_eq HVL.out hx hy HXY.out, ← HK.out, HN.out])
      go_wp2_with fail
      go_ret2
      exact ⟨by rw [HE.out]; rfl, S.out.bel⟩

theorem ofN_getD (l : List Nat) (k : Nat) : (ofN l).getD k 0 = ((l.getD k 0 : Nat) : Int) := by
  simp only [ofN, List.getD_eq_getElem?_getD, List.getElem?_map]
  cases l[k]? <;> simp
theorem own_fin {t : Twn} (hv : Vl t) {l : List Nat} (h : Way t l) : finE (baseM t) 6 (l.take 1) = true := by
  have h0 := h.ne
  have h6 := hv.w6
  cases l with
  | nil => simp at h0
  | cons a m =>
    have ha := h.lt a (by simp)
    have := (own_eq hv (x := (a : Int)) (by omega)).symm
    have hle : ownTo t a t.snd.length ≤ 99 := by
      unfold ownTo
      have : ∀ (ss : List Snd) (n : Int), ss.foldl (ownF a) n ≤ n := by
        intro ss
        induction ss with
        | nil => intro n; exact Int.le_refl _
        | cons s ss ih =>
          intro n
          rw [List.foldl_cons]
          have h1 := ih (ownF a n s)
          have h2 : ownF a n s ≤ n := by unfold ownF; split <;> omega
          omega
      exact this _ _
    rw [Int.toNat_natCast] at this
    simp only [List.take_succ_cons, List.take_zero, finE, Bool.and_true, decide_eq_true_eq]
    omega

set_option maxRecDepth 20000 in
set_option maxHeartbeats 8000000 in
theorem follows_any (v lv : Value) (t : Twn) (l : List Nat) (w : World) (hv : TwnAt w v t) (hl : Ints w lv (ofN l)) (hvl : Vl t) (hl1 : t.snd.length ≤ 1000) (hl2 : t.slp.length ≤ 1000) (hw : Way t l) :
    Calls Try.prog 44 #[v, lv] w fun e w' => e = .returned (.tuple #[I (followsP (baseM t) l).1, .bool (followsP (baseM t) l).2]) ∧ Below w.heap.size w w' := by
  obtain ⟨sv, pv, rfl, hs, hp⟩ := hv
  obtain ⟨A1, c1, rfl, hsl1, hsl2, hc1⟩ := hs.open_
  obtain ⟨A2, c2, rfl, hpl1, hpl2, hc2⟩ := hp.open_
  have HSN := Lib.hid hs
  have HSP := Lib.hid hp
  have HC1 := Lib.hid hc1
  have HC2 := Lib.hid hc2
  clear hc1 hc2 hs hp
  obtain ⟨A3, c3, rfl, -, -, -⟩ := id hl.open_
  obtain ⟨-, hc3⟩ := hl.at_get rfl
  rw [show (ofN l).length = l.length by simp [ofN]] at hc3 ⊢
  obtain ⟨b3, o3, rfl, hb3, hcell3⟩ := hc3 hw.ne
  have HC3 := Lib.hid (fun k (hk : k < l.length) => show w.cell? ⟨b3, o3 + k, none⟩ = some (I ((l.getD k 0 : Nat) : Int)) from (by have h := hcell3 k hk; rw [ofN_getD] at h; exact h))
  clear hl hc3 hcell3
  have S := Lib.hid (show St w (w.alloc (.cells #[I t.wells, .slice A1 t.snd.length c1, .slice A2 t.slp.length c2] 25)) (w.heap.size + 1) [.box w.heap.size [I t.wells, .slice A1 t.snd.length c1, .slice A2 t.slp.length c2]] from (St.init w).alloc [I t.wells, .slice A1 t.snd.length c1, .slice A2 t.slp.length c2] 25)
  have HVL := Lib.hid hvl
  have HW := Lib.hid hw
  have hw0 := hw.ne
  have hw6 := hw.len
  have hbd := baseM_bd hvl
  have HBD := Lib.hid hbd
  have z0 := HC3.out 0 hw0
  rw [Nat.add_zero] at z0
  have HX0 := Lib.hid (show 0 ≤ ((l.getD 0 0 : Nat) : Int) ∧ ((l.getD 0 0 : Nat) : Int) < t.wells from ⟨by omega, hw.at_lt hw0⟩)
  have HS0 := Lib.hid (show sumE (baseM t) 6 (l.take 1) = at_ (baseM t) 6 (l.getD 0 0) by rw [getD_at hw0]; cases l with | nil => simp at hw0 | cons a m => simp [sumE])
  have HF0 := Lib.hid (own_fin hvl hw)
  obtain ⟨x, hx⟩ : ∃ x, ((l.getD 0 0 : Nat) : Int) = x := ⟨_, rfl⟩
  have HXN := Lib.hid (show l.getD 0 0 = x.toNat by omega)
  have HX0 := Lib.hid (show 0 ≤ x ∧ x < t.wells by rw [← hx]; exact HX0.out)
  rw [hx] at z0
  have HZ0 := Lib.hid z0
  clear hx z0 hw hbd
  go_enter Try.func44, Try.ntmps44
  go_wp2_with fail
  refine wp_region_seg [([0, 1, 2, 3], 4)] [5] [] 6 (by kernel_rfl) (by kernel_rfl) ?_
  intro KQ hKQ w1 hb
  have S := Lib.hid (S.out.call hb)
  clear hb
  have z0 := cell_regrown (keep_cell S.out.bel HZ0.out)
  have q0 := cell_regrown (S.out.get 0 0 rfl rfl)
  have q1 := cell_regrown (S.out.get 0 1 rfl rfl)
  have q2 := cell_regrown (S.out.get 0 2 rfl rfl)
  refine seg_next ?_
  simp only [opsAt, List.filterMap_cons, List.filterMap_nil, List.getElem?_toArray, List.getElem?_cons_succ, List.getElem?_cons_zero]
  repeat (first | go_big_quiet_step (fail) | quiet_step (fail))
  refine wpQuiet_nil ?_
  intro K hK
  refine loud_op rfl rfl ?_
  go_simp
  refine (own_any _ t _ _ ⟨_, _, rfl, HSN.out.below S.out.bel, HSP.out.below S.out.bel⟩ HVL.out hl1 HX0.out).mono ?_
  rintro e w2 ⟨rfl, hb⟩
  rw [← HXN.out, ← HS0.out]
  have S := Lib.hid (S.out.call hb)
  refine hK _ _ hb ?_
  clear hK K hb q0 q1 q2 z0
  refine seg_last ?_
  simp only [opsAt, List.filterMap_cons, List.filterMap_nil, List.getElem?_toArray, List.getElem?_cons_succ, List.getElem?_cons_zero]
  repeat (first | go_big_quiet_step (fail) | quiet_step (fail))
  refine wpQuiet_nil ?_
  go_wp2_with fail
  go_loopw [6, 7] (fun n i wr => ∃ k : Nat, 0 < k ∧ k ≤ l.length ∧ n = I (sumE (baseM t) 6 (l.take k)) ∧ i = I k ∧ Hid (finE (baseM t) 6 (l.take k) = true) ∧ Hid (St w wr wr.heap.size [.box w.heap.size [I t.wells, .slice A1 t.snd.length c1, .slice A2 t.slp.length c2]])) (fun _ i _ => l.length - (intOf i).toNat)
  case atStart => exact ⟨1, by omega, by omega, rfl, rfl, HF0, Lib.hid S.out.fix⟩
  case round =>
    clear S
    obtain ⟨k, hk0, hk, rfl, rfl, HF, S⟩ := hrel
    by_cases hlt : k < l.length
    · have hki : (k : Int) < (l.length : Int) := by omega
      have y0 := HC3.out (k - 1) (by omega)
      have y1 := HC3.out k hlt
      have hk2 : (k : Int) - 1 = ((k - 1 : Nat) : Int) := by omega
      have hk3 : IntKind.i64.wrap ((k - 1 : Nat) : Int) = ((k - 1 : Nat) : Int) := IntWalk.i64_in _ (by omega)
      have hk4 : ((k - 1 : Nat) : Int) < (l.length : Int) := by omega
      have hk5 : k - 1 < l.length := by omega
      have hfs := follow_succ (own := baseM t) hlt hk0
      have hbd := sum_bd HBD.out (l.take k) 6 (by omega) (fun x hx => by have := HW.out.lt x (List.mem_of_mem_take hx); have := HVL.out.w6; omega) HF.out
      have hlk : (l.take k).length ≤ 6 := by rw [List.length_take]; omega
      have hb1 := HBD.out.low (l.getD (k - 1) 0) (l.getD k 0) (by have := HW.out.at_lt (k := k - 1) (by omega); have := HVL.out.w6; omega) (by have := HW.out.at_lt hlt; have := HVL.out.w6; omega)
      have hb2 := HBD.out.high (l.getD (k - 1) 0) (l.getD k 0) (by have := HW.out.at_lt (k := k - 1) (by omega); have := HVL.out.w6; omega) (by have := HW.out.at_lt hlt; have := HVL.out.w6; omega)
      obtain ⟨m, hm⟩ : ∃ m, at_ (baseM t) (l.getD (k - 1) 0) (l.getD k 0) = m := ⟨_, rfl⟩
      rw [hm] at hfs hb1 hb2
      obtain ⟨s, hs⟩ : ∃ s, sumE (baseM t) 6 (l.take k) = s := ⟨_, rfl⟩
      rw [hs] at hfs hbd ⊢
      have HP1 := Lib.hid (show 0 ≤ ((l.getD (k - 1) 0 : Nat) : Int) ∧ ((l.getD (k - 1) 0 : Nat) : Int) < t.wells from ⟨by omega, HW.out.at_lt (by omega)⟩)
      have HP2 := Lib.hid (show 0 ≤ ((l.getD k 0 : Nat) : Int) ∧ ((l.getD k 0 : Nat) : Int) < t.wells from ⟨by omega, HW.out.at_lt hlt⟩)
      have HP3 := Lib.hid (show ((l.getD (k - 1) 0 : Nat) : Int) ≠ ((l.getD k 0 : Nat) : Int) from fun e => HW.out.ne_at hlt hk0 (by omega))
      obtain ⟨p, hp⟩ : ∃ p, ((l.getD (k - 1) 0 : Nat) : Int) = p := ⟨_, rfl⟩
      obtain ⟨q, hq⟩ : ∃ q, ((l.getD k 0 : Nat) : Int) = q := ⟨_, rfl⟩
      rw [hp] at y0 HP1 HP3
      rw [hq] at y1 HP2 HP3
      have HPN := Lib.hid (show p.toNat = l.getD (k - 1) 0 ∧ q.toNat = l.getD k 0 by omega)
      have HY0 := Lib.hid y0
      have HY1 := Lib.hid y1
      clear hp hq hs y0 y1
      obtain ⟨hf1, hf2⟩ := hfs
      have HF1 := Lib.hid hf1
      have HF2 := Lib.hid hf2
      have e0 : (0 : Int) ≤ ((l.take k).length : Int) := by omega
      clear hf1 hf2
      by_cases hc : m = 1048576
      · have HE := Lib.hid (show followsP (baseM t) l = (0, false) from if_neg (by rw [fin_pre (k := k + 1) (by rw [HF2.out, hc]; simp)]; simp))
        have HSV := Lib.hid (show stepV (at_ (baseM t) (l.getD (k - 1) 0) (l.getD k 0)) = (0, false) by rw [hm]; exact if_pos hc)
        clear hm hc
        go_wp2_with fail
        refine wp_region_seg [([0, 1, 2, 3, 4, 5, 6, 7, 8, 9], 10)] [11, 12, 13, 14, 15] [] 16 (by kernel_rfl) (by kernel_rfl) ?_
        intro KQ hKQ w1 hb
        have S := Lib.hid (S.out.call hb)
        have y0 := cell_regrown (keep_cell S.out.bel HY0.out)
        have y1 := cell_regrown (keep_cell S.out.bel HY1.out)
        clear hb
        have q0 := cell_regrown (S.out.get 0 0 rfl rfl)
        have q1 := cell_regrown (S.out.get 0 1 rfl rfl)
        have q2 := cell_regrown (S.out.get 0 2 rfl rfl)
        refine seg_next ?_
        simp only [opsAt, List.filterMap_cons, List.filterMap_nil, List.getElem?_toArray, List.getElem?_cons_succ, List.getElem?_cons_zero]
        repeat (first | go_big_quiet_step (fail) | quiet_step (fail))
        refine wpQuiet_nil ?_
        intro K hK
        refine loud_op rfl rfl ?_
        go_simp
        refine (step_any _ t _ _ _ ⟨_, _, rfl, HSN.out.below S.out.bel, HSP.out.below S.out.bel⟩ HVL.out hl2 HP1.out HP2.out HP3.out).mono ?_
        rintro e w2 ⟨rfl, hb⟩
        rw [HPN.out.1, HPN.out.2, HSV.out]
        have S := Lib.hid (S.out.call hb)
        refine hK _ _ hb ?_
        clear hK K hb q0 q1 q2 y0 y1
        refine seg_last ?_
        simp only [opsAt, List.filterMap_cons, List.filterMap_nil, List.getElem?_toArray, List.getElem?_cons_succ, List.getElem?_cons_zero]
        repeat (first | go_big_quiet_step (fail) | quiet_step (fail))
        refine wpQuiet_nil ?_
        go_wp2_with fail
        go_ret2
        exact ⟨by rw [HE.out]; rfl, S.out.bel⟩
      · have HFN := Lib.hid (show finE (baseM t) 6 (l.take (k + 1)) = true by rw [HF2.out, HF.out, decide_eq_true hc]; rfl)
        have hm9 : -99 ≤ m ∧ m ≤ 99 := by omega
        have HSV := Lib.hid (show stepV (at_ (baseM t) (l.getD (k - 1) 0) (l.getD k 0)) = (m, true) by rw [hm]; exact if_neg hc)
        clear hm hc
        go_wp2_with fail
        refine wp_region_seg [([0, 1, 2, 3, 4, 5, 6, 7, 8, 9], 10)] [11, 12, 13, 14, 15] [] 16 (by kernel_rfl) (by kernel_rfl) ?_
        intro KQ hKQ w1 hb
        have S := Lib.hid (S.out.call hb)
        have y0 := cell_regrown (keep_cell S.out.bel HY0.out)
        have y1 := cell_regrown (keep_cell S.out.bel HY1.out)
        clear hb
        have q0 := cell_regrown (S.out.get 0 0 rfl rfl)
        have q1 := cell_regrown (S.out.get 0 1 rfl rfl)
        have q2 := cell_regrown (S.out.get 0 2 rfl rfl)
        refine seg_next ?_
        simp only [opsAt, List.filterMap_cons, List.filterMap_nil, List.getElem?_toArray, List.getElem?_cons_succ, List.getElem?_cons_zero]
        repeat (first | go_big_quiet_step (fail) | quiet_step (fail))
        refine wpQuiet_nil ?_
        intro K hK
        refine loud_op rfl rfl ?_
        go_simp
        refine (step_any _ t _ _ _ ⟨_, _, rfl, HSN.out.below S.out.bel, HSP.out.below S.out.bel⟩ HVL.out hl2 HP1.out HP2.out HP3.out).mono ?_
        rintro e w2 ⟨rfl, hb⟩
        rw [HPN.out.1, HPN.out.2, HSV.out]
        have S := Lib.hid (S.out.call hb)
        refine hK _ _ hb ?_
        clear hK K hb q0 q1 q2 y0 y1
        refine seg_last ?_
        simp only [opsAt, List.filterMap_cons, List.filterMap_nil, List.getElem?_toArray, List.getElem?_cons_succ, List.getElem?_cons_zero]
        repeat (first | go_big_quiet_step (fail) | quiet_step (fail))
        refine wpQuiet_nil ?_
        go_wp2_with fail
        go_roundw
        case rel => exact ⟨k + 1, by omega, by omega, by rw [HF1.out], by go_num, HFN, Lib.hid S.out.fix⟩
        case measure => first | (simp [intOf]; done) | (simp [intOf]; omega)
    · have hki : ¬ (k : Int) < (l.length : Int) := by omega
      have HE := Lib.hid (show followsP (baseM t) l = (sumE (baseM t) 6 (l.take k), true) by
        have h := HF.out
        rw [List.take_of_length_le (by omega)] at h ⊢
        exact if_pos h)
      obtain ⟨s, hs⟩ : ∃ s, sumE (baseM t) 6 (l.take k) = s := ⟨_, rfl⟩
      rw [hs] at HE ⊢
      clear hs
      go_wp2_with fail
      go_ret2
      exact ⟨by rw [HE.out]; rfl, S.out.bel⟩

end Go.Proofs.Ytplbaijdnpfdgaa
/- Walks of the reference: chains, Why. -/
namespace Go.Proofs.Ytplbaijdnpfdgaa
open Go.RowKit Go.Sort

/-- Slices of one's own, apart from a row: what they hold. -/
def Apart (base : Nat) (w : World) (vo : Value) (cs : List Value) (L : List (List Int)) : Prop :=
  cs.length = L.length ∧ ∀ i (h1 : i < cs.length) (h2 : i < L.length), ∃ b m c, cs[i] = .slice (some ⟨b, 0, none⟩) m c ∧ base ≤ b ∧ b < w.heap.size ∧ vo.ownBlock ≠ some b ∧ Ints w cs[i] L[i]
/-- .. each one a list. -/
def LL (w : World) (cs : List Value) (L : List (List Int)) : Prop := cs.length = L.length ∧ ∀ i (h1 : i < cs.length) (h2 : i < L.length), Ints w cs[i] L[i]
theorem LL.below {w w' : World} {cs : List Value} {L : List (List Int)} (h : LL w cs L) (hb : Below w.heap.size w w') : LL w' cs L := ⟨h.1, fun i h1 h2 => (h.2 i h1 h2).below hb⟩
theorem Apart.ll {base : Nat} {w : World} {vo : Value} {cs : List Value} {L : List (List Int)} (h : Apart base w vo cs L) : LL w cs L := ⟨h.1, fun i h1 h2 => by
  obtain ⟨_, _, _, _, _, _, _, h⟩ := h.2 i h1 h2
  exact h⟩
theorem LL.one {w : World} {cs : List Value} {L : List (List Int)} (h : LL w cs L) : ∀ u ∈ cs, u.oneCell' = true := fun u hu => by
  obtain ⟨i, hi, rfl⟩ := List.mem_iff_getElem.1 hu
  obtain ⟨_, A, c, e, _⟩ := h.2 i hi (by rw [← h.1]; exact hi)
  rw [e]
  rfl
theorem Apart.nil (base : Nat) (w : World) (vo : Value) : Apart base w vo [] [] := ⟨rfl, fun i h1 _ => absurd h1 (by simp)⟩
theorem Apart.below {base : Nat} {w w' : World} {vo : Value} {cs : List Value} {L : List (List Int)} (h : Apart base w vo cs L) (hb : Below w.heap.size w w') : Apart base w' vo cs L := ⟨h.1, fun i h1 h2 => by
  obtain ⟨b, m, c, e, k1, k2, k3, k4⟩ := h.2 i h1 h2
  exact ⟨b, m, c, e, k1, Nat.lt_of_lt_of_le k2 hb.size, k3, k4.below hb⟩⟩
theorem Ints.grown {w w' : World} {b m c : Nat} {l : List Int} {ob : Option Nat} (h : Ints w (.slice (some ⟨b, 0, none⟩) m c) l) (hg : w.grownBy w' ob) (hb : b < w.heap.size) (hne : ob ≠ some b) : Ints w' (.slice (some ⟨b, 0, none⟩) m c) l := by
  obtain ⟨h1, A, c', e, h3, h4, h5⟩ := h
  injection e with e1 e2 e3
  subst e1
  subst e3
  refine ⟨h1, _, _, by rw [e2], h3, h4, fun hp => ⟨b, 0, rfl, fun j u hu => ?_⟩⟩
  obtain ⟨b', o', e', hc⟩ := h5 hp
  injection e' with e'
  injection e' with e6 e7 e8
  subst e6
  subst e7
  rw [World.cell?_of_block (hg.block b hb (fun e => hne e.symm))]
  exact hc j u hu
theorem grownBy.of_below {w w' : World} (h : Below w.heap.size w w') (ob : Option Nat) : w.grownBy w' ob := ⟨h.os, h.tape, h.output, h.size, fun k hk _ => h.block k hk⟩
/-- The row has grown by other lists of one's own. -/
theorem Apart.grown {base : Nat} {w w' : World} {vo vo' vs : Value} {cs ds : List Value} {L M : List (List Int)} (h : Apart base w vo cs L) (k : Apart base w vs ds M) (hg : w.grownBy w' vo.ownBlock) (hv : vo'.ownBlock = vo.ownBlock ∨ vo'.ownBlock = some w.heap.size)
    (hd : ∀ b m c, (.slice (some ⟨b, 0, none⟩) m c : Value) ∈ ds → vo.ownBlock ≠ some b) : Apart base w' vo' (cs ++ ds) (L ++ M) := by
  have hne : ∀ b, b < w.heap.size → vo.ownBlock ≠ some b → vo'.ownBlock ≠ some b := fun b hb hn => by
    rcases hv with hv | hv
    · rw [hv]; exact hn
    · rw [hv]; intro e; injection e with e; omega
  refine ⟨by rw [List.length_append, List.length_append, h.1, k.1], fun i h1 h2 => ?_⟩
  by_cases hi : i < cs.length
  · obtain ⟨b, m, c, e, k1, k2, k3, k4⟩ := h.2 i hi (by rw [← h.1]; exact hi)
    rw [List.getElem_append_left hi, List.getElem_append_left (by rw [← h.1]; exact hi)]
    rw [e] at k4
    exact ⟨b, m, c, e, k1, Nat.lt_of_lt_of_le k2 hg.size, hne b k2 k3, by rw [e]; exact k4.grown hg k2 k3⟩
  · have hi2 : i - cs.length < ds.length := by rw [List.length_append] at h1; omega
    have hi3 : i - L.length < M.length := by rw [List.length_append] at h2; rw [← h.1]; rw [← k.1]; omega
    obtain ⟨b, m, c, e, k1, k2, -, k4⟩ := k.2 (i - cs.length) hi2 (by rw [← k.1]; exact hi2)
    rw [List.getElem_append_right (by omega), List.getElem_append_right (by rw [← h.1]; omega)]
    have hb := hd b m c (by rw [← e]; exact List.getElem_mem _)
    have eL : M[i - L.length] = M[i - cs.length]'(by rw [← k.1]; exact hi2) := by congr 1; rw [h.1]
    rw [e] at k4
    exact ⟨b, m, c, e, k1, Nat.lt_of_lt_of_le k2 hg.size, hne b k2 hb, by rw [e, eL]; exact k4.grown hg k2 hb⟩
theorem St.ne2 {w0 w : World} {n : Nat} {L : List Item} (h : St w0 w n L) (i j : Nat) {x y : Item} {b c : Nat} (hi : L[i]? = some x) (hj : L[j]? = some y) (hij : i ≠ j) (hx : x.blk = some b) (hy : y.blk = some c) : b ≠ c := fun e =>
  hij (nodup_fm Item.blk L i j x y b h.apart hi hj hx (by rw [e]; exact hy))
theorem heap_alloc_old {w : World} {o ob : Obj} {b : Nat} (h : w.heap[b]? = some o) : (w.alloc ob).heap[b]? = some o := by
  have hb : b < w.heap.size := (Array.getElem?_eq_some_iff.1 h).1
  have := ((Below.refl w.heap.size w).alloc (Nat.le_refl _) ob).block b hb
  rw [this]
  exact h

theorem ints_nil' (w : World) : Ints w (.slice none 0 0) [] := ⟨by simp, none, 0, rfl, Nat.le_refl _, by omega, fun h => absurd h (by simp)⟩
theorem flat_len {α : Type} {N : Nat} (f : Nat → List α) : ∀ (l : List Nat), (∀ x ∈ l, (f x).length ≤ N) → (l.flatMap f).length ≤ l.length * N
  | [], _ => by simp
  | x :: l, h => by
    have := flat_len f l fun y hy => h y (List.mem_cons_of_mem _ hy)
    have := h x (by simp)
    rw [List.flatMap_cons, List.length_append, List.length_cons, Nat.succ_mul]
    omega
def mapN (L : List (List Nat)) : List (List Int) := L.map ofN
/-- The lists of so many wells more, all different, that end with a well. -/
def chainsD (N last : Nat) : Nat → List Nat → List (List Nat)
  | 0, l => if lastW l = last then [l] else []
  | d + 1, l => (List.range N).flatMap fun w => if w ∈ l then [] else chainsD N last d (l ++ [w])
def chainsK (N last d : Nat) (l : List Nat) (k : Nat) : List (List Nat) := (List.range k).flatMap fun w => if w ∈ l then [] else chainsD N last d (l ++ [w])
theorem chainsK_succ (N last d : Nat) (l : List Nat) (k : Nat) : chainsK N last d l (k + 1) = chainsK N last d l k ++ (if k ∈ l then [] else chainsD N last d (l ++ [k])) := by
  unfold chainsK
  rw [List.range_succ, List.flatMap_append]
  simp
theorem pow5 {N : Nat} (hN : N ≤ 5) : ∀ d, d ≤ 5 → N ^ d ≤ 3125
  | 0, _ => by simp
  | 1, _ => by simp; omega
  | 2, _ => Nat.le_trans (Nat.pow_le_pow_left hN 2) (by decide)
  | 3, _ => Nat.le_trans (Nat.pow_le_pow_left hN 3) (by decide)
  | 4, _ => Nat.le_trans (Nat.pow_le_pow_left hN 4) (by decide)
  | 5, _ => Nat.le_trans (Nat.pow_le_pow_left hN 5) (by decide)
  | n + 6, h => absurd h (by omega)
theorem chainsD_size {N last : Nat} : ∀ (d : Nat) (l : List Nat), (chainsD N last d l).length ≤ N ^ d
  | 0, l => by rw [chainsD]; split <;> simp
  | d + 1, l => by
    rw [chainsD]
    refine Nat.le_trans (flat_len (N := N ^ d) _ _ fun x _ => ?_) ?_
    · split
      · simp
      · exact chainsD_size d _
    · rw [List.length_range, Nat.pow_succ, Nat.mul_comm]
      exact Nat.le_refl _
theorem chainsK_size {N last : Nat} (d : Nat) (l : List Nat) (k : Nat) : (chainsK N last d l k).length ≤ k * N ^ d := by
  refine Nat.le_trans (flat_len (N := N ^ d) _ _ fun x _ => ?_) (by rw [List.length_range]; exact Nat.le_refl _)
  split
  · simp
  · exact chainsD_size d _
theorem chainsD_mem {N last : Nat} : ∀ (d : Nat) (l x : List Nat), l.Nodup → (∀ y ∈ l, y < N) → x ∈ chainsD N last d l → l <+: x ∧ x.Nodup ∧ (∀ y ∈ x, y < N) ∧ x.length = l.length + d
  | 0, l, x, h1, h2, h => by
    rw [chainsD] at h
    split at h
    · obtain rfl := List.mem_singleton.1 h
      exact ⟨List.prefix_refl _, h1, h2, rfl⟩
    · simp at h
  | d + 1, l, x, h1, h2, h => by
    rw [chainsD] at h
    obtain ⟨w, hw, h⟩ := List.mem_flatMap.1 h
    split at h
    · simp at h
    · rename_i hn
      obtain ⟨a, b, c, e⟩ := chainsD_mem d (l ++ [w]) x (List.nodup_append.2 ⟨h1, by simp, fun y hy z hz => by
        rw [List.mem_singleton.1 hz]
        rintro rfl
        exact hn hy⟩) (fun y hy => by
        rcases List.mem_append.1 hy with h | h
        · exact h2 y h
        · rw [List.mem_singleton.1 h]; exact List.mem_range.1 hw) h
      exact ⟨(List.prefix_append l [w]).trans a, b, c, by rw [e]; simp; omega⟩
/-- A list by which the highest level is known. -/
def isWhy (own : List Int) (H : Int) (r : List Nat) : Bool := finE own 6 r && decide (sumE own 6 r = H)
theorem chains_find {own bs : List Int} {N well : Nat} : ∀ (d : Nat) (l : List Nat), finE own 6 l = true → (chainsD N well d l).find? (isWhy own (at_ bs 6 well)) = findW own bs N well d l (sumE own 6 l)
  | 0, l, h => by
    rw [chainsD, findW]
    by_cases h1 : lastW l = well
    · rw [if_pos h1]
      by_cases h2 : sumE own 6 l = at_ bs 6 well
      · rw [if_pos ⟨h1, h2⟩]
        simp [isWhy, h, h2]
      · rw [if_neg fun h => h2 h.2]
        simp [isWhy, h2]
    · rw [if_neg h1, if_neg fun h => h1 h.1]
      rfl
  | d + 1, l, h => by
    rw [chainsD, findW, List.find?_flatMap]
    congr 1
    funext w
    have hs := sumE_append (own := own) l [w] []
    have hf := finE_append (own := own) l [w] []
    rw [show lastW [] = 6 from rfl, List.nil_append] at hs hf
    simp only [sumE, finE, Bool.and_true, h, Bool.true_and, Int.add_zero] at hs hf
    by_cases h1 : w ∈ l
    · rw [if_pos h1, if_pos (.inl h1)]; rfl
    · rw [if_neg h1]
      by_cases h2 : at_ own (lastW l) w = 1048576
      · rw [if_pos (.inr h2)]
        refine List.find?_eq_none.2 fun x hx => ?_
        obtain ⟨m, rfl⟩ := chains_pre d _ x hx
        have := fin_pre (own := own) (l := (l ++ [w]) ++ m) (k := (l ++ [w]).length) (by rw [List.take_left, hf, h2]; decide)
        rw [isWhy, this]
        simp
      · rw [if_neg (fun h => h.elim h1 h2), chains_find d _ (by rw [hf]; exact decide_eq_true h2), hs]
where chains_pre {N last : Nat} : ∀ (d : Nat) (l x : List Nat), x ∈ chainsD N last d l → l <+: x
  | 0, l, x, h => by
    rw [chainsD] at h
    split at h
    · rw [List.mem_singleton.1 h]; exact List.prefix_refl _
    · simp at h
  | d + 1, l, x, h => by
    rw [chainsD] at h
    obtain ⟨w, _, h⟩ := List.mem_flatMap.1 h
    split at h
    · simp at h
    · exact (List.prefix_append l [w]).trans (chains_pre d _ x h)
theorem whyTo_some {own bs : List Int} {N well K : Nat} {l : List Nat} (h : whyTo own bs N well K = some l) : ∀ d, whyTo own bs N well (K + d) = some l
  | 0 => h
  | d + 1 => by
    have ih := whyTo_some h d
    unfold whyTo at ih ⊢
    rw [← Nat.add_assoc, List.range_succ, List.findSome?_append, ih]
    rfl
structure WhyNo (t : Twn) (v : Int) (k : Nat) : Prop where
  no : whyTo (baseM t) (closeM (baseM t)) t.wells.toNat v.toNat k = none
theorem why_found {t : Twn} {v : Int} (h : openE t (isWell t.wells v) = 0) {k : Nat} {l : List Nat} (hk : k < t.wells.toNat) (hn : WhyNo t v k) (hf : (chainsD t.wells.toNat v.toNat (k + 1) []).find? (isWhy (baseM t) (at_ (closeM (baseM t)) 6 v.toNat)) = some l) : whyP t v = (l, 0) := by
  have h1 := whyTo_succ _ _ _ _ _ hn.no
  rw [chains_find (k + 1) [] rfl, show sumE (baseM t) 6 [] = 0 from rfl] at hf
  rw [hf] at h1
  have h2 := whyTo_some h1 (t.wells.toNat - (k + 1))
  rw [show k + 1 + (t.wells.toNat - (k + 1)) = t.wells.toNat by omega] at h2
  unfold whyP
  rw [if_pos h, h2]
theorem why_next {t : Twn} {v : Int} {k : Nat} (hn : WhyNo t v k) (hf : (chainsD t.wells.toNat v.toNat (k + 1) []).find? (isWhy (baseM t) (at_ (closeM (baseM t)) 6 v.toNat)) = none) : WhyNo t v (k + 1) := by
  have h1 := whyTo_succ _ _ _ _ _ hn.no
  rw [chains_find (k + 1) [] rfl, show sumE (baseM t) 6 [] = 0 from rfl] at hf
  exact ⟨h1.trans hf⟩
theorem why_end {t : Twn} {v : Int} (h : openE t (isWell t.wells v) = 0) (hn : WhyNo t v t.wells.toNat) : whyP t v = ([], 3) := by
  unfold whyP
  rw [if_pos h, hn.no]

theorem not_mem_ofN {k : Nat} {l : List Nat} (h : k ∉ l) : decide (((k : Nat) : Int) ∈ ofN l) = false := by
  refine decide_eq_false fun hm => ?_
  obtain ⟨z, hz, e⟩ := List.mem_map.1 hm
  obtain rfl : z = k := by omega
  exact h hz

set_option maxRecDepth 20000 in
set_option maxHeartbeats 8000000 in
theorem rChains_any (t : Twn) (N M last : Nat) (hN5 : N ≤ 5) (hM : M ≤ 5) (hM0 : 0 < M) (hNW : t.wells = (N : Int)) : ∀ (d : Nat) (v v2 : Value) (fl : List Nat) (w : World) (_ : TwnAt w v t) (_ : Ints w v2 (ofN fl)) (_ : fl.length + d = M) (_ : 0 < w.heap.size),
    Calls Try.prog 82 #[v, v2, I (M : Int), I (last : Int)] w fun e w' => ∃ v', e = .returned v' ∧ ∃ cs, w'.ownsRow w.heap.size 29 1 v' cs.length cs ∧ LL w' cs (mapN (chainsD N last d fl)) ∧ (d = 0 → cs = [v2] ∨ cs = []) ∧ (0 < d → Apart w.heap.size w' v' cs (mapN (chainsD N last d fl))) ∧ Below w.heap.size w w' := by
  obtain ⟨i0, hi, hz0, hz1, hz2⟩ := info_parts Try.info3
  obtain ⟨iT, hiT, hzT0, hzT1, hzT2⟩ := info_parts (P := Try.prog) (e := 29) (z := .slice none 0 0) (size := 1) (bytes := 24) (by kernel_rfl)
  intro d
  induction d with
  | zero =>
    intro v v2 fl w hv hl hd hw0
    obtain ⟨sv, pv, rfl, hs, hp⟩ := hv
    have HSN := Lib.hid hs
    have HSP := Lib.hid hp
    obtain ⟨A1, c1, rfl, -, -, -⟩ := id hs.open_
    obtain ⟨A2, c2, rfl, -, -, -⟩ := id hp.open_
    clear hs hp
    have S := Lib.hid (show St w (w.alloc (.cells #[I t.wells, .slice A1 t.snd.length c1, .slice A2 t.slp.length c2] 25)) (w.heap.size + 1) [.box w.heap.size [I t.wells, .slice A1 t.snd.length c1, .slice A2 t.slp.length c2]] from (St.init w).alloc [I t.wells, .slice A1 t.snd.length c1, .slice A2 t.slp.length c2] 25)
    obtain ⟨Al, cl, rfl, hl1, hl2, -⟩ := id hl.open_
    obtain ⟨-, hlc⟩ := hl.at_get rfl
    have hfl : (ofN fl).length = fl.length := by simp [ofN]
    rw [hfl] at hl hl1 hlc ⊢
    have HL := Lib.hid hl
    have HLC := Lib.hid hlc
    have HFL := Lib.hid hfl
    have HRD := Lib.hid (show Reads w 1 (.slice Al fl.length cl) fl.length ((ofN fl).map I) by have h := HL.out; unfold Ints at h; rw [hfl] at h; exact h)
    clear hl hlc hfl
    clear hNW
    have hq : ((fl.length : Int) == (M : Int)) = true := by rw [beq_iff_eq]; omega
    have h0 : 0 < fl.length := by omega
    obtain ⟨bz, oz, rfl, hbz, hcz⟩ := HLC.out h0
    have y0 := hcz (fl.length - 1) (by omega)
    rw [ofN_getD] at y0
    have hla := take_last (l := fl ++ [0]) (k := fl.length) (by simp) h0
    rw [List.take_left, getD_at (by simp; omega), List.getElem_append_left (by omega), ← getD_at (d := 0) (by omega)] at hla
    have y0 := keep_cell S.out.bel y0
    obtain ⟨x, hx⟩ : ∃ x, fl.getD (fl.length - 1) 0 = x := ⟨_, rfl⟩
    rw [hx] at y0 hla
    have HLAST := Lib.hid hla
    have e1 : ((M : Nat) : Int) - 1 = ((fl.length - 1 : Nat) : Int) := by omega
    have e2 : IntKind.i64.wrap ((fl.length - 1 : Nat) : Int) = ((fl.length - 1 : Nat) : Int) := IntWalk.i64_in _ (by omega)
    have e3 : fl.length - 1 < fl.length := by omega
    clear hx hcz hla hbz
    by_cases hc : x = last
    · have hcq : ((x : Int) == (last : Int)) = true := by rw [beq_iff_eq]; omega
      have HCD := Lib.hid (show chainsD N last 0 fl = [fl] from if_pos (HLAST.out.trans hc))
      clear hc
      go_enter Try.func82, Try.ntmps82
      go_wp2_with fail
      have S2 := Lib.hid (S.out.alloc [.slice (some ⟨bz, oz, none⟩) fl.length cl] 29)
      go_ret
      refine ⟨.slice (some ⟨w.heap.size + 1, 0, none⟩) 1 1, rfl, [.slice (some ⟨bz, oz, none⟩) fl.length cl], by have q := World.ownsRow_lit (e := 29) (size := 1) (w.alloc (.cells #[I t.wells, .slice A1 t.snd.length c1, .slice A2 t.slp.length c2] 25)) #[.slice (some ⟨bz, oz, none⟩) fl.length cl] 1 S.out.bel.size (by decide) rfl; simpa using q, ?_, fun _ => Or.inl rfl, fun h => absurd h (by omega), S2.out.bel⟩
      rw [HCD.out]
      refine ⟨rfl, fun i h1 h2 => ?_⟩
      obtain rfl : i = 0 := by simpa using h1
      exact HL.out.below S2.out.bel
    · have hcq : ((x : Int) == (last : Int)) = false := by rw [beq_eq_false_iff_ne]; omega
      have HCD := Lib.hid (show chainsD N last 0 fl = [] from if_neg (fun h => hc (HLAST.out.symm.trans h)))
      clear hc
      go_enter Try.func82, Try.ntmps82
      go_wp2_with fail
      go_ret
      refine ⟨.slice none 0 0, rfl, [], (S.out.nil 29 1).own 0 rfl, ?_, fun _ => Or.inr rfl, fun h => absurd h (by omega), S.out.bel⟩
      rw [HCD.out]
      exact ⟨rfl, fun i h1 _ => absurd h1 (by simp)⟩
  | succ d ih =>
    intro v v2 fl w hv hl hd hw0
    obtain ⟨sv, pv, rfl, hs, hp⟩ := hv
    have HSN := Lib.hid hs
    have HSP := Lib.hid hp
    obtain ⟨A1, c1, rfl, -, -, -⟩ := id hs.open_
    obtain ⟨A2, c2, rfl, -, -, -⟩ := id hp.open_
    clear hs hp
    have S := Lib.hid (show St w (w.alloc (.cells #[I t.wells, .slice A1 t.snd.length c1, .slice A2 t.slp.length c2] 25)) (w.heap.size + 1) [.box w.heap.size [I t.wells, .slice A1 t.snd.length c1, .slice A2 t.slp.length c2]] from (St.init w).alloc [I t.wells, .slice A1 t.snd.length c1, .slice A2 t.slp.length c2] 25)
    obtain ⟨Al, cl, rfl, hl1, hl2, -⟩ := id hl.open_
    obtain ⟨-, hlc⟩ := hl.at_get rfl
    have hfl : (ofN fl).length = fl.length := by simp [ofN]
    rw [hfl] at hl hl1 hlc ⊢
    have HL := Lib.hid hl
    have HLC := Lib.hid hlc
    have HFL := Lib.hid hfl
    have HRD := Lib.hid (show Reads w 1 (.slice Al fl.length cl) fl.length ((ofN fl).map I) by have h := HL.out; unfold Ints at h; rw [hfl] at h; exact h)
    clear hl hlc hfl
    have hq : ((fl.length : Int) == (M : Int)) = false := by rw [beq_eq_false_iff_ne]; omega
    have hfm : fl.length < M := by omega
    have HNW := Lib.hid hNW
    have S := Lib.hid (show St w _ _ [.own 29 1 (.slice none 0 0) 0 [], .box w.heap.size [I t.wells, .slice A1 t.snd.length c1, .slice A2 t.slp.length c2]] from S.out.nil 29 1)
    clear hNW
    go_enter Try.func82, Try.ntmps82
    go_wp2_with fail
    clear hq
    go_loopw [9, 10] (fun u i wr => ∃ (k : Nat) (vo : Value) (cs : List Value), vo = u ∧ i = I (k : Int) ∧ k ≤ N ∧ Hid (Apart w.heap.size wr vo cs (mapN (chainsK N last d fl k))) ∧ Hid (St w wr wr.heap.size [.own 29 1 vo cs.length cs, .box w.heap.size [I t.wells, .slice A1 t.snd.length c1, .slice A2 t.slp.length c2]])) (fun _ i _ => N - (intOf i).toNat)
    case atStart => exact ⟨0, _, [], rfl, rfl, by omega, Lib.hid (by have h := Apart.nil w.heap.size (w.alloc (.cells #[I t.wells, .slice A1 t.snd.length c1, .slice A2 t.slp.length c2] 25)) (.slice none 0 0); exact h), Lib.hid S.out.fix⟩
    case round =>
      clear S
      obtain ⟨k, vo, cs, rfl, rfl, hk, AP, S⟩ := hrel
      have q0 := S.out.get 1 0 rfl rfl
      by_cases hlt : k < N
      · have hki : (k : Int) < t.wells := by rw [HNW.out]; omega
        go_wp2_with fail
        clear q0
        refine (in_any _ (ofN fl) (k : Int) _ (HL.out.below S.out.bel)).mono ?_
        rintro e w1 ⟨rfl, hb⟩
        have AP := Lib.hid (AP.out.below hb)
        have S := Lib.hid (S.out.call hb)
        clear hb
        by_cases hin : k ∈ fl
        · rw [show decide (((k : Nat) : Int) ∈ ofN fl) = true from decide_eq_true (List.mem_map.2 ⟨k, hin, rfl⟩)]
          have HSX := Lib.hid (show mapN (chainsK N last d fl (k + 1)) = mapN (chainsK N last d fl k) by rw [chainsK_succ, if_pos hin, List.append_nil])
          clear hin
          go_wp2_with fail
          go_roundw
          case rel => exact ⟨k + 1, vo, cs, rfl, by go_num, by omega, Lib.hid (by rw [HSX.out]; exact AP.out), Lib.hid S.out⟩
          case measure => first | (simp [intOf]; done) | (simp [intOf]; omega)
        · rw [show decide (((k : Nat) : Int) ∈ ofN fl) = false from not_mem_ofN hin]
          have HNI := Lib.hid hin
          clear hin
          obtain ⟨hx, hhx⟩ : ∃ x : Int, (k : Int) = x := ⟨_, rfl⟩
          have HHX := Lib.hid hhx
          have hxb : 0 ≤ hx := by omega
          have hxc : hx ≤ 5 := by omega
          rw [hhx] at hki ⊢
          clear hhx
          go_wp2_with fail
          refine wp_region_treeC (.node [0, 1, 3, 5, 8, 9] [2, 6] (fun l => if l = 2 then .node [] [4, 6] (fun l => if l = 4 then .node [] [6] (fun _ => .node [] [7] (fun _ => .node [] [10] (fun _ => .node [] [11] (fun _ => .last [12] [])))) else .node [] [4] (fun _ => .node [] [7] (fun _ => .node [] [10] (fun _ => .node [] [11] (fun _ => .last [12] []))))) else .node [] [2] (fun _ => .node [] [4] (fun _ => .node [] [7] (fun _ => .node [] [10] (fun _ => .node [] [11] (fun _ => .last [12] []))))))) 13 (by kernel_rfl) (by kernel_rfl) ?_
          intro KQ hKQ wq hb
          have AP := Lib.hid (AP.out.below hb)
          have S := Lib.hid (S.out.call hb)
          clear hb
          have x0 := S.out.get 1 0 rfl rfl
          have x1 := S.out.get 1 1 rfl rfl
          have x2 := S.out.get 1 2 rfl rfl
          have hgx : ∃ g, g < wq.heap.size ∧ g ≠ w.heap.size ∧ (vo.ownBlock = some g ∨ vo.ownBlock = none) := by
            have hlb := S.out.lt 1 rfl
            rcases (S.out.own 0 rfl).2 with ⟨e, -⟩ | ⟨g, cap, cur, e, k1, k2, -⟩
            · exact ⟨0, by omega, by omega, .inr (by rw [e]; rfl)⟩
            · have hne := S.out.ne2 0 1 rfl rfl (by omega) (by rw [e]; rfl) rfl
              exact ⟨g, (Array.getElem?_eq_some_iff.1 k2).1, hne, .inl (by rw [e]; rfl)⟩
          obtain ⟨g, hgq, hgr, hgv⟩ := hgx
          refine ⟨CP wq g, CP.refl wq hgq, ?_⟩
          have x0 := cell_patched x0 (fun e => hgr e.symm)
          have x1 := cell_patched x1 (fun e => hgr e.symm)
          have x2 := cell_patched x2 (fun e => hgr e.symm)
          have HB := Lib.hid (Below.refl wq.heap.size wq)
          refine treeC_node ?_
          simp only [opsAt, List.filterMap_cons, List.filterMap_nil, List.getElem?_toArray, List.getElem?_cons_succ, List.getElem?_cons_zero]
          repeat (first | go_big_quiet_step (fail) | quiet_step (fail))
          refine wpQuiet_nil ?_
          clear x0 x1 x2
          apply cut_laterH
          · intro key
            refine all_two ?_ ?_
            · intro K hK
              refine loud_op rfl rfl ?_
              go_simp
              have hb := (Below.refl wq.heap.size wq).alloc (Nat.le_refl _) (.cells #[] 3)
              have hg := heap_alloc_new wq (.cells #[] 3)
              obtain ⟨wp1, hwd⟩ : ∃ x, wq.alloc (.cells #[] 3) = x := ⟨_, rfl⟩
              obtain ⟨gE, hgE⟩ : ∃ x, wq.heap.size = x := ⟨_, rfl⟩
              have hgl : wq.heap.size ≤ gE := by rw [← hgE]; exact HB.out.size
              rw [hwd] at hb hg ⊢
              rw [hgE] at hg ⊢
              clear hwd hgE
              have HB := Lib.hid (bto HB.out hb)
              have G0 := Lib.hid hg
              refine hK _ _ (CP.of (grownBy.of_below HB.out _) hgq) ?_
              clear hK K hb hg
              refine treeC_node ?_
              simp only [opsAt, List.filterMap_nil]
              refine wpQuiet_nil ?_
              refine all_two ?_ ?_
              · intro K hK
                refine loud_op rfl rfl ?_
                have hrd := Reads.below HRD.out (bto S.out.bel HB.out)
                refine wp_append_fresh _ (.tmp 36) (.tmp 37) 29 rfl wq.heap.size 3 i0 (.int .i64 0) 1 8 Try.underlying29 hi hz0 hz1 hz2 rfl (by omega) gE rfl G0.out hgl _ fl.length ((ofN fl).map I) rfl hrd (ints_one (ofN fl)) (by simp only [maxLen]; omega) (by omega) HB.out.size ?_
                intro v1 wt hown hb
                have HB := Lib.hid (bto HB.out hb)
                obtain ⟨Av1, cv1, rfl⟩ := own_shape hown
                have O1 := Lib.hid hown
                refine hK _ _ (CP.of (grownBy.of_below HB.out _) hgq) ?_
                clear hK K hb hown hrd
                refine treeC_node ?_
                simp only [opsAt, List.filterMap_nil]
                refine wpQuiet_nil ?_
                refine all_one ?_
                intro K hK
                refine loud_op rfl rfl ?_
                go_simp
                have hb := (Below.refl wt.heap.size wt).alloc (Nat.le_refl _) (.cells #[I hx] 3)
                have hg := box_cell wt #[I hx] 3 0 rfl
                have O2 := O1.out.alloc (.cells #[I hx] 3)
                obtain ⟨wp2, hwd⟩ : ∃ x, wt.alloc (.cells #[I hx] 3) = x := ⟨_, rfl⟩
                obtain ⟨gB, hgB⟩ : ∃ x, wt.heap.size = x := ⟨_, rfl⟩
                rw [hwd] at hb hg O2 ⊢
                rw [hgB] at hg ⊢
                clear hwd hgB
                have HB := Lib.hid (bto HB.out hb)
                have B1 := Lib.hid hg
                replace O1 := Lib.hid O2
                clear O2
                refine hK _ _ (CP.of (grownBy.of_below HB.out _) hgq) ?_
                clear hK K hb hg
                refine treeC_node ?_
                simp only [opsAt, List.filterMap_nil]
                refine wpQuiet_nil ?_
                refine all_one ?_
                intro K hK
                refine loud_op rfl rfl ?_
                have T := (St.init wq).take HB.out O1.out
                refine wp_append_src _ (.tmp 38) (.tmp 40) 29 rfl wq.heap.size 3 i0 (.int .i64 0) 1 8 Try.underlying29 hi hz0 hz1 hz2 rfl (by omega) _ fl.length ((ofN fl).map I) rfl O1.out _ 1 [I hx] rfl (reads_box1 B1.out) (ints_one [hx]) (by simp only [maxLen]; omega) (by omega) HB.out.size ?_
                intro v2' wX hown hg hv
                have T2 := T.grown 0 rfl hown hg hv
                have HBX := Lib.hid T2.bel
                obtain ⟨Av2, cv2, rfl⟩ := own_shape hown
                have HOX := Lib.hid hown
                refine hK _ _ (CP.of (grownBy.of_below HBX.out _) hgq) ?_
                clear hK K hown hg hv T T2
                clear hgl G0 B1 O1
                revert HOX; revert HBX; revert wX; revert cv2; revert Av2; revert cv1; revert Av1; revert gB; revert gE
                exact key.out
              · intro K hK
                refine loud_op rfl rfl ?_
                go_simp
                have hb := (Below.refl wp1.heap.size wp1).alloc (Nat.le_refl _) (.cells #[I hx] 3)
                have hg := box_cell wp1 #[I hx] 3 0 rfl
                have G1 := heap_alloc_old (ob := .cells #[I hx] 3) G0.out
                obtain ⟨wp2, hwd⟩ : ∃ x, wp1.alloc (.cells #[I hx] 3) = x := ⟨_, rfl⟩
                obtain ⟨gB, hgB⟩ : ∃ x, wp1.heap.size = x := ⟨_, rfl⟩
                rw [hwd] at hb hg G1 ⊢
                rw [hgB] at hg ⊢
                clear hwd hgB
                have HB := Lib.hid (bto HB.out hb)
                have B1 := Lib.hid hg
                replace G0 := Lib.hid G1
                clear G1
                refine hK _ _ (CP.of (grownBy.of_below HB.out _) hgq) ?_
                clear hK K hb hg
                refine treeC_node ?_
                simp only [opsAt, List.filterMap_nil]
                refine wpQuiet_nil ?_
                refine all_one ?_
                intro K hK
                refine loud_op rfl rfl ?_
                have hrd := Reads.below HRD.out (bto S.out.bel HB.out)
                refine wp_append_fresh _ (.tmp 36) (.tmp 37) 29 rfl wq.heap.size 3 i0 (.int .i64 0) 1 8 Try.underlying29 hi hz0 hz1 hz2 rfl (by omega) gE rfl G0.out hgl _ fl.length ((ofN fl).map I) rfl hrd (ints_one (ofN fl)) (by simp only [maxLen]; omega) (by omega) HB.out.size ?_
                intro v1 wt hown hb
                replace B1 := Lib.hid (keep_cell hb B1.out)
                have HB := Lib.hid (bto HB.out hb)
                obtain ⟨Av1, cv1, rfl⟩ := own_shape hown
                have O1 := Lib.hid hown
                refine hK _ _ (CP.of (grownBy.of_below HB.out _) hgq) ?_
                clear hK K hb hown hrd
                refine treeC_node ?_
                simp only [opsAt, List.filterMap_nil]
                refine wpQuiet_nil ?_
                refine all_one ?_
                intro K hK
                refine loud_op rfl rfl ?_
                have T := (St.init wq).take HB.out O1.out
                refine wp_append_src _ (.tmp 38) (.tmp 40) 29 rfl wq.heap.size 3 i0 (.int .i64 0) 1 8 Try.underlying29 hi hz0 hz1 hz2 rfl (by omega) _ fl.length ((ofN fl).map I) rfl O1.out _ 1 [I hx] rfl (reads_box1 B1.out) (ints_one [hx]) (by simp only [maxLen]; omega) (by omega) HB.out.size ?_
                intro v2' wX hown hg hv
                have T2 := T.grown 0 rfl hown hg hv
                have HBX := Lib.hid T2.bel
                obtain ⟨Av2, cv2, rfl⟩ := own_shape hown
                have HOX := Lib.hid hown
                refine hK _ _ (CP.of (grownBy.of_below HBX.out _) hgq) ?_
                clear hK K hown hg hv T T2
                exact key.out gE gB Av1 cv1 Av2 cv2 wX HBX HOX
            · intro K hK
              refine loud_op rfl rfl ?_
              go_simp
              have hb := (Below.refl wq.heap.size wq).alloc (Nat.le_refl _) (.cells #[I hx] 3)
              have hg := box_cell wq #[I hx] 3 0 rfl
              obtain ⟨wp1, hwd⟩ : ∃ x, wq.alloc (.cells #[I hx] 3) = x := ⟨_, rfl⟩
              obtain ⟨gB, hgB⟩ : ∃ x, wq.heap.size = x := ⟨_, rfl⟩
              rw [hwd] at hb hg ⊢
              rw [hgB] at hg ⊢
              clear hwd hgB
              have HB := Lib.hid (bto HB.out hb)
              have B1 := Lib.hid hg
              refine hK _ _ (CP.of (grownBy.of_below HB.out _) hgq) ?_
              clear hK K hb hg
              refine treeC_node ?_
              simp only [opsAt, List.filterMap_nil]
              refine wpQuiet_nil ?_
              refine all_one ?_
              intro K hK
              refine loud_op rfl rfl ?_
              go_simp
              have hb := (Below.refl wp1.heap.size wp1).alloc (Nat.le_refl _) (.cells #[] 3)
              have hg := heap_alloc_new wp1 (.cells #[] 3)
              obtain ⟨wp2, hwd⟩ : ∃ x, wp1.alloc (.cells #[] 3) = x := ⟨_, rfl⟩
              obtain ⟨gE, hgE⟩ : ∃ x, wp1.heap.size = x := ⟨_, rfl⟩
              have hgl : wq.heap.size ≤ gE := by rw [← hgE]; exact HB.out.size
              rw [hwd] at hb hg ⊢
              rw [hgE] at hg ⊢
              clear hwd hgE
              have HB := Lib.hid (bto HB.out hb)
              have G0 := Lib.hid hg
              replace B1 := Lib.hid (keep_cell hb B1.out)
              refine hK _ _ (CP.of (grownBy.of_below HB.out _) hgq) ?_
              clear hK K hb hg
              refine treeC_node ?_
              simp only [opsAt, List.filterMap_nil]
              refine wpQuiet_nil ?_
              refine all_one ?_
              intro K hK
              refine loud_op rfl rfl ?_
              have hrd := Reads.below HRD.out (bto S.out.bel HB.out)
              refine wp_append_fresh _ (.tmp 36) (.tmp 37) 29 rfl wq.heap.size 3 i0 (.int .i64 0) 1 8 Try.underlying29 hi hz0 hz1 hz2 rfl (by omega) gE rfl G0.out hgl _ fl.length ((ofN fl).map I) rfl hrd (ints_one (ofN fl)) (by simp only [maxLen]; omega) (by omega) HB.out.size ?_
              intro v1 wt hown hb
              replace B1 := Lib.hid (keep_cell hb B1.out)
              have HB := Lib.hid (bto HB.out hb)
              obtain ⟨Av1, cv1, rfl⟩ := own_shape hown
              have O1 := Lib.hid hown
              refine hK _ _ (CP.of (grownBy.of_below HB.out _) hgq) ?_
              clear hK K hb hown hrd
              refine treeC_node ?_
              simp only [opsAt, List.filterMap_nil]
              refine wpQuiet_nil ?_
              refine all_one ?_
              intro K hK
              refine loud_op rfl rfl ?_
              have T := (St.init wq).take HB.out O1.out
              refine wp_append_src _ (.tmp 38) (.tmp 40) 29 rfl wq.heap.size 3 i0 (.int .i64 0) 1 8 Try.underlying29 hi hz0 hz1 hz2 rfl (by omega) _ fl.length ((ofN fl).map I) rfl O1.out _ 1 [I hx] rfl (reads_box1 B1.out) (ints_one [hx]) (by simp only [maxLen]; omega) (by omega) HB.out.size ?_
              intro v2' wX hown hg hv
              have T2 := T.grown 0 rfl hown hg hv
              have HBX := Lib.hid T2.bel
              obtain ⟨Av2, cv2, rfl⟩ := own_shape hown
              have HOX := Lib.hid hown
              refine hK _ _ (CP.of (grownBy.of_below HBX.out _) hgq) ?_
              clear hK K hown hg hv T T2
              exact key.out gE gB Av1 cv1 Av2 cv2 wX HBX HOX
          · intro gE gB Av1 cv1 Av2 cv2 wX HBX HOX
            refine treeC_node ?_
            simp only [opsAt, List.filterMap_nil]
            refine wpQuiet_nil ?_
            refine all_one ?_
            intro K hK
            refine loud_op rfl rfl ?_
            go_simp
            have hIX : Ints wX (.slice Av2 (fl.length + 1) cv2) (ofN (fl ++ [k])) := by
              have q := Reads.of_own HOX.out
              unfold Ints
              rw [show (ofN (fl ++ [k])).length = fl.length + 1 by simp [ofN], show (ofN (fl ++ [k])).map I = (ofN fl).map I ++ [I hx] by simp [ofN, HHX.out]]
              exact q
            refine (ih _ _ (fl ++ [k]) _ ⟨_, _, rfl, HSN.out.below (bto S.out.bel HBX.out), HSP.out.below (bto S.out.bel HBX.out)⟩ hIX (by rw [List.length_append]; simp only [List.length_cons, List.length_nil]; omega) (by have := HBX.out.size; omega)).mono ?_
            rintro e wY ⟨v', rfl, ds, hown, hll, hd0, hd1, hb⟩
            have hbY := bto HBX.out hb
            have S2 := Lib.hid (S.out.call hbY)
            have AP2 := Lib.hid (AP.out.below hbY)
            have hap2 : Apart w.heap.size wY v' ds (mapN (chainsD N last d (fl ++ [k]))) ∧ ∀ b m c, (.slice (some ⟨b, 0, none⟩) m c : Value) ∈ ds → wq.heap.size ≤ b := by
              rcases Nat.eq_zero_or_pos d with h0 | h0
              · rcases hd0 h0 with hds | hds
                · subst hds
                  obtain ⟨g2, cap2, e2, k1, k2⟩ := own_shape_pos HOX.out (by omega)
                  injection e2 with e3 e4 e5
                  subst e3
                  have hne : v'.ownBlock ≠ some g2 := by
                    rcases own_shape_pos hown (by simp) with ⟨g3, cap3, e3, k3, k4⟩
                    rw [e3]
                    intro e
                    injection e with e
                    simp only at e
                    omega
                  refine ⟨⟨hll.1, fun i i1 i2 => ?_⟩, fun b m c hm => ?_⟩
                  · obtain rfl : i = 0 := by simpa using i1
                    exact ⟨g2, _, _, rfl, Nat.le_trans S.out.bel.size k1, Nat.lt_of_lt_of_le k2 hb.size, hne, hll.2 0 i1 i2⟩
                  · rw [List.mem_singleton] at hm
                    injection hm with e6 e7 e8
                    injection e6 with e6
                    injection e6 with e6
                    omega
                · subst hds
                  exact ⟨⟨hll.1, fun i i1 i2 => absurd i1 (by simp)⟩, fun b m c hm => by simp at hm⟩
              · have h1 := hd1 h0
                refine ⟨⟨h1.1, fun i i1 i2 => ?_⟩, fun b m c hm => ?_⟩
                · obtain ⟨b, m, c, e, k1, k2, k3, k4⟩ := h1.2 i i1 i2
                  exact ⟨b, m, c, e, Nat.le_trans (Nat.le_trans S.out.bel.size HBX.out.size) k1, k2, k3, k4⟩
                · obtain ⟨i, i1, e⟩ := List.mem_iff_getElem.1 hm
                  obtain ⟨b', m', c', e', k1, -⟩ := h1.2 i i1 (by rw [← h1.1]; exact i1)
                  rw [e] at e'
                  injection e' with e6 e7 e8
                  injection e6 with e6
                  injection e6 with e6
                  have := HBX.out.size
                  omega
            obtain ⟨hap2, hnew⟩ := hap2
            have hlen3 : ds.length ≤ 3125 := by
              have h := hll.1
              rw [mapN, List.length_map] at h
              rw [h]
              exact Nat.le_trans (chainsD_size d _) (pow5 hN5 d (by omega))
            have hlen1 : cs.length ≤ 15625 := by
              have h1 := AP.out.1
              rw [mapN, List.length_map] at h1
              have h2 := chainsK_size (N := N) (last := last) d fl k
              have h3 := Nat.mul_le_mul (show k ≤ 5 by omega) (pow5 hN5 d (by omega))
              omega
            have HOWN := Lib.hid hown
            have HAP := Lib.hid hap2
            have HNEW := Lib.hid hnew
            refine hK _ _ (CP.of (grownBy.of_below hbY _) hgq) ?_
            clear hK K hb hown hll hd0 hd1 hap2 hnew hIX
            refine treeC_node ?_
            simp only [opsAt, List.filterMap_nil]
            refine wpQuiet_nil ?_
            refine all_one ?_
            intro K hK
            refine loud_op rfl rfl ?_
            refine wp_append_src _ (.tmp 34) (.tmp 44) 88 rfl w.heap.size 29 iT (.slice none 0 0) 1 24 Try.underlying88 hiT hzT0 hzT1 hzT2 rfl (by omega) vo cs.length cs rfl (S2.out.own 0 rfl) v' ds.length ds rfl (Reads.of_own HOWN.out) HAP.out.ll.one (by simp only [maxLen]; omega) (by omega) S2.out.bel.size ?_
            intro v'' wZ hown2 hg hv
            have hgn : ∀ b, wq.heap.size ≤ b → vo.ownBlock ≠ some b := fun b hbl e => by
              rcases hgv with hgv | hgv
              · rw [hgv] at e; injection e with e; omega
              · rw [hgv] at e; cases e
            have S3 := Lib.hid (S2.out.grown 0 rfl hown2 hg hv)
            have AP3 := Lib.hid (AP2.out.grown HAP.out hg hv (fun b m c hm => fun e => hgn b (HNEW.out b m c hm) e))
            have hgc : wq.grownBy wZ (some g) := ⟨hg.os.trans hbY.os, hg.tape.trans hbY.tape, hg.output.trans hbY.output, Nat.le_trans hbY.size hg.size, fun j hj hne => by
              rw [hg.block j (Nat.lt_of_lt_of_le hj hbY.size) (fun e => by
                rcases hgv with hgv | hgv
                · rw [hgv] at e; exact hne e
                · rw [hgv] at e; cases e), hbY.block j hj]⟩
            refine hK _ _ (CP.of hgc hgq) ?_
            clear hK K hg hv hown2 hgn hgc
            refine treeC_last ?_
            simp only [opsAt, List.filterMap_cons, List.filterMap_nil, List.getElem?_toArray, List.getElem?_cons_succ, List.getElem?_cons_zero]
            repeat (first | go_big_quiet_step (fail) | quiet_step (fail))
            refine wpQuiet_nil ?_
            have HSX := Lib.hid (show mapN (chainsK N last d fl (k + 1)) = mapN (chainsK N last d fl k) ++ mapN (chainsD N last d (fl ++ [k])) by rw [chainsK_succ, if_neg HNI.out, mapN, List.map_append]; rfl)
            go_wp2_with fail
            go_roundw
            case rel => exact ⟨k + 1, v'', cs ++ ds, rfl, by have := HHX.out; rw [show (((k + 1 : Nat)) : Int) = hx + 1 by omega], by omega, Lib.hid (by rw [HSX.out]; exact AP3.out), Lib.hid (by rw [List.length_append]; exact S3.out)⟩
            case measure =>
              have := HHX.out
              first | (simp [intOf]; done) | (simp [intOf]; omega)
      · have hki : ¬ (k : Int) < t.wells := by rw [HNW.out]; omega
        have HSX := Lib.hid (show chainsK N last d fl k = chainsD N last (d + 1) fl by
          obtain rfl : k = N := by omega
          rfl)
        rw [HSX.out] at AP
        go_wp2_with fail
        go_ret
        exact ⟨vo, rfl, cs, S.out.own 0 rfl, AP.out.ll, AP.out, S.out.bel⟩

set_option maxRecDepth 100000 in
set_option maxHeartbeats 8000000 in
theorem rWhy_any (v : Value) (t : Twn) (well : Int) (w : World) (hv : TwnAt w v t) (h5 : valid t = true → t.wells ≤ 5) :
    Calls Try.prog 26 #[v, I well] w fun e w' => RetL w (ofN (whyP t well).1) (whyP t well).2 e w' := by
  obtain ⟨sv, pv, rfl, hs, hp⟩ := hv
  have HSN := Lib.hid hs
  have HSP := Lib.hid hp
  obtain ⟨A1, c1, rfl, -, -, -⟩ := id hs.open_
  obtain ⟨A2, c2, rfl, -, -, -⟩ := id hp.open_
  clear hs hp
  have S := Lib.hid (show St w (w.alloc (.cells #[I t.wells, .slice A1 t.snd.length c1, .slice A2 t.slp.length c2] 25)) (w.heap.size + 1) [.box w.heap.size [I t.wells, .slice A1 t.snd.length c1, .slice A2 t.slp.length c2]] from (St.init w).alloc [I t.wells, .slice A1 t.snd.length c1, .slice A2 t.slp.length c2] 25)
  by_cases h : openE t (isWell t.wells well) = 0
  · have HOP := Lib.hid h
    obtain ⟨hv, hwl, hd⟩ := openE_zero' h
    have hv' := valid_iff'.1 hv
    have HVL := Lib.hid hv'.1
    have ht1 := hv'.2.1
    have ht2 := hv'.2.2
    have hwr := isWell_iff.1 hwl
    obtain ⟨N, hN⟩ := Int.eq_ofNat_of_zero_le hv'.1.w0
    have hN5 : N ≤ 5 := by have := h5 hv; omega
    have HNW := Lib.hid hN
    have HNN := Lib.hid (show t.wells.toNat = N by omega)
    obtain ⟨V, hV⟩ : ∃ V, well.toNat = V := ⟨_, rfl⟩
    have HVN := Lib.hid hV
    have HVI := Lib.hid (show well = (V : Int) by omega)
    have HBD0 := Lib.hid (baseM_bd hv'.1)
    obtain ⟨H, hH⟩ : ∃ H, at_ (closeM (baseM t)) 6 V = H := ⟨_, rfl⟩
    have HHN := Lib.hid hH
    obtain ⟨L0, hL0⟩ : ∃ L0, -at_ (closeM (baseM t)) V 6 = L0 := ⟨_, rfl⟩
    have HLE := Lib.hid (show levelP t well = (⟨L0, H⟩, 0) by unfold levelP; rw [if_pos h, hV, hL0, hH])
    have HN0 := Lib.hid (WhyNo.mk (t := t) (v := well) (k := 0) rfl)
    clear h hv hwl hd hv' hwr hN hV hH hL0 h5
    go_enter Try.func26, Try.ntmps26
    have q_town0 := S.out.get 0 0 rfl rfl
    have q_town1 := S.out.get 0 1 rfl rfl
    have q_town2 := S.out.get 0 2 rfl rfl
    go_wp2_with fail
    refine (rLevel_any _ t well _ ⟨_, _, rfl, HSN.out.below S.out.bel, HSP.out.below S.out.bel⟩).mono ?_
    rintro e w1 ⟨rfl, hb⟩
    rw [HLE.out]
    have S := Lib.hid ((S.out.call hb).alloc [I L0, I H] 40)
    clear hb
    clear q_town0 q_town1 q_town2
    go_wp2_with fail
    go_loopw [8] (fun i wr => ∃ k : Nat, k ≤ N ∧ i = I ((k : Int) + 1) ∧ Hid (WhyNo t well k) ∧ Hid (St w wr wr.heap.size [.box w1.heap.size [I L0, I H], .box w.heap.size [I t.wells, .slice A1 t.snd.length c1, .slice A2 t.slp.length c2]])) (fun i _ => N + 1 - (intOf i).toNat)
    case atStart => exact ⟨0, by omega, rfl, HN0, Lib.hid S.out.fix⟩
    case round =>
      clear S HN0
      obtain ⟨k, hk, rfl, HNO, S⟩ := hrel
      obtain ⟨wo, rfl⟩ : ∃ wo : World, wo = wr := ⟨_, rfl⟩
      obtain ⟨m, hm⟩ : ∃ m : Int, (k : Int) + 1 = m := ⟨_, rfl⟩
      have HKM := Lib.hid hm
      have hm0 : 0 < m := by omega
      have hm6 : m ≤ 6 := by omega
      rw [hm]
      clear hm
      have q0 := S.out.get 1 0 rfl rfl
      have q1 := S.out.get 1 1 rfl rfl
      have q2 := S.out.get 1 2 rfl rfl
      by_cases hlt : k < N
      · have hki : m ≤ t.wells := by rw [HNW.out]; have := HKM.out; omega
        go_wp2_with fail
        clear q0 q1 q2 hki
        have HMK := Lib.hid (show m = ((k + 1 : Nat) : Int) by have := HKM.out; omega)
        rw [HMK.out, HVI.out]
        refine (rChains_any t N (k + 1) V hN5 (by omega) (by omega) HNW.out (k + 1) _ _ [] _ ⟨_, _, rfl, HSN.out.below S.out.bel, HSP.out.below S.out.bel⟩ (ints_nil' _) (by simp) (Nat.lt_of_le_of_lt (Nat.zero_le _) (S.out.lt 1 rfl))).mono ?_
        rintro e w2 ⟨v', rfl, cs, hown, hll, -, -, hb⟩
        rw [← HMK.out, ← HVI.out]
        have SB := Lib.hid (S.out.call hb)
        have HQ0 := Lib.hid (SB.out.get 1 0 rfl rfl)
        have HQ1 := Lib.hid (SB.out.get 1 1 rfl rfl)
        have HQ2 := Lib.hid (SB.out.get 1 2 rfl rfl)
        have HQY := Lib.hid (SB.out.get 0 1 rfl rfl)
        have hrd := Reads.of_own hown
        obtain ⟨-, Al, cl, rfl, hl1, hl2, hlc⟩ := id hrd
        have HLL := Lib.hid hll
        have HLC := Lib.hid hlc
        have HCL := Lib.hid (show cs.length = (chainsD N V (k + 1) []).length by have h := hll.1; simpa [mapN] using h)
        have hcb : cs.length ≤ 3125 := by
          rw [HCL.out]
          exact Nat.le_trans (chainsD_size (k + 1) []) (pow5 hN5 (k + 1) (by omega))
        clear hll hlc hrd hown hb S
        have T := Lib.hid (St.init w2)
        go_wp2_with fail
        go_loopw [10] (fun x wr => ∃ i : Nat, i ≤ cs.length ∧ x = I i ∧ Hid (∀ z ∈ (chainsD N V (k + 1) []).take i, isWhy (baseM t) H z = false) ∧ Hid (St w2 wr wr.heap.size [])) (fun x _ => cs.length - (intOf x).toNat)
        case atStart => exact ⟨0, by omega, rfl, Lib.hid (by simp), Lib.hid T.out.fix⟩
        case round =>
          clear T
          obtain ⟨i, hi, rfl, HNB, T⟩ := hrel
          by_cases hil : i < cs.length
          · have hii : (i : Int) < (cs.length : Int) := by omega
            have hiL : i < (chainsD N V (k + 1) []).length := by have := HCL.out; omega
            obtain ⟨bl, ol, e, hcl⟩ := HLC.out (by omega)
            subst e
            have y0 := hcl i cs[i] (List.getElem?_eq_getElem hil)
            have hin := HLL.out.2 i hil (by simp [mapN]; exact hiL)
            obtain ⟨u, hu⟩ : ∃ x, cs[i] = x := ⟨_, rfl⟩
            rw [hu] at y0 hin
            have hin0 : Ints w2 u (ofN (chainsD N V (k + 1) [])[i]) := by simpa [mapN] using hin
            have hmem := chainsD_mem (k + 1) [] _ List.nodup_nil (by simp) (List.getElem_mem hiL)
            have hpre : (chainsD N V (k + 1) []).take (i + 1) = (chainsD N V (k + 1) []).take i ++ [(chainsD N V (k + 1) [])[i]] := List.take_succ_eq_append_getElem hiL
            obtain ⟨x, hx⟩ : ∃ x, (chainsD N V (k + 1) [])[i] = x := ⟨_, rfl⟩
            rw [hx] at hin0 hmem hpre
            obtain ⟨Au, cu, rfl, -, -, -⟩ := hin0.open_
            have HIN := Lib.hid hin0
            have Y0 := Lib.hid y0
            have HPX := Lib.hid hpre
            have Hw1.heap.size := Lib.hid (Way.mk (t := t) (l := x) (by have := hmem.2.2.2; simp at this; omega) (by have := hmem.2.2.2; simp at this; omega) (fun z hz => by have := hmem.2.2.1 z hz; rw [HNW.out]; omega) hmem.2.1)
            have HFB := Lib.hid (fun h : finE (baseM t) 6 x = true => sum_bd HBD0.out x 6 (by omega) (fun z hz => by have := hmem.2.2.1 z hz; omega) h)
            have hxl : x.length ≤ 6 := Hw1.heap.size.out.len
            clear hcl hin hin0 y0 hu hmem hpre hx
            have z1 := keep_cell T.out.bel HQY.out
            go_wp2_with fail
            clear z1
            cases hf : finE (baseM t) 6 x
            · have HFO := Lib.hid (show followsP (baseM t) x = (0, false) from if_neg (by rw [hf]; simp))
              have HBD := Lib.hid (show isWhy (baseM t) H x = false by rw [isWhy, hf]; rfl)
              clear hf
              refine wp_region_seg [([0, 1, 2, 3, 4], 5)] [6, 7, 8, 9, 10] [] 11 (by kernel_rfl) (by kernel_rfl) ?_
              intro KQ hKQ w4 hb
              have T := Lib.hid (T.out.call hb)
              clear hb
              have q0 := cell_regrown (keep_cell T.out.bel HQ0.out)
              have q1 := cell_regrown (keep_cell T.out.bel HQ1.out)
              have q2 := cell_regrown (keep_cell T.out.bel HQ2.out)
              have y0 := cell_regrown (keep_cell T.out.bel Y0.out)
              refine seg_next ?_
              simp only [opsAt, List.filterMap_cons, List.filterMap_nil, List.getElem?_toArray, List.getElem?_cons_succ, List.getElem?_cons_zero]
              repeat (first | go_big_quiet_step (fail) | quiet_step (fail))
              refine wpQuiet_nil ?_
              intro K hK
              refine loud_op rfl rfl ?_
              go_simp
              refine (follows_any _ _ t x _ ⟨_, _, rfl, HSN.out.below (bto SB.out.bel T.out.bel), HSP.out.below (bto SB.out.bel T.out.bel)⟩ (HIN.out.below T.out.bel) HVL.out (by omega) (by omega) Hw1.heap.size.out).mono ?_
              rintro e w5 ⟨rfl, hb⟩
              rw [HFO.out]
              have T := Lib.hid (T.out.call hb)
              refine hK _ _ hb ?_
              clear hK K hb q0 q1 q2 y0
              refine seg_last ?_
              simp only [opsAt, List.filterMap_cons, List.filterMap_nil, List.getElem?_toArray, List.getElem?_cons_succ, List.getElem?_cons_zero]
              repeat (first | go_big_quiet_step (fail) | quiet_step (fail))
              refine wpQuiet_nil ?_
              have z1 := keep_cell T.out.bel HQY.out
              go_wp2_with fail
              go_roundw
              case rel => exact ⟨i + 1, by omega, by go_num, Lib.hid (by rw [HPX.out]; intro z hz; rcases List.mem_append.1 hz with h | h; exact HNB.out z h; rw [List.mem_singleton.1 h]; exact HBD.out), Lib.hid T.out.fix⟩
              case measure => first | (simp [intOf]; done) | (simp [intOf]; omega)
            · have hsb := HFB.out hf
              obtain ⟨s, hs⟩ : ∃ s, sumE (baseM t) 6 x = s := ⟨_, rfl⟩
              have HFO := Lib.hid (show followsP (baseM t) x = (s, true) by rw [← hs]; exact if_pos hf)
              rw [hs] at hsb
              by_cases hc : s = H
              · have hcq : (s == H) = true := by rw [beq_iff_eq]; exact hc
                have HWT := Lib.hid (show isWhy (baseM t) H x = true by rw [isWhy, hf, hs, decide_eq_true hc]; rfl)
                have HE := Lib.hid (show whyP t well = (x, 0) from why_found (k := k) HOP.out (by rw [HNN.out]; omega) HNO.out (by rw [HNN.out, HVN.out, HHN.out]; exact find_prefix (pre := (chainsD N V (k + 1) []).take i) (x := x) (all := chainsD N V (k + 1) []) (by rw [← HPX.out]; exact List.take_prefix _ _) HNB.out HWT.out))
                clear hf hs hc hsb
                refine wp_region_seg [([0, 1, 2, 3, 4], 5)] [6, 7, 8, 9, 10] [] 11 (by kernel_rfl) (by kernel_rfl) ?_
                intro KQ hKQ w4 hb
                have T := Lib.hid (T.out.call hb)
                clear hb
                have q0 := cell_regrown (keep_cell T.out.bel HQ0.out)
                have q1 := cell_regrown (keep_cell T.out.bel HQ1.out)
                have q2 := cell_regrown (keep_cell T.out.bel HQ2.out)
                have y0 := cell_regrown (keep_cell T.out.bel Y0.out)
                refine seg_next ?_
                simp only [opsAt, List.filterMap_cons, List.filterMap_nil, List.getElem?_toArray, List.getElem?_cons_succ, List.getElem?_cons_zero]
                repeat (first | go_big_quiet_step (fail) | quiet_step (fail))
                refine wpQuiet_nil ?_
                intro K hK
                refine loud_op rfl rfl ?_
                go_simp
                refine (follows_any _ _ t x _ ⟨_, _, rfl, HSN.out.below (bto SB.out.bel T.out.bel), HSP.out.below (bto SB.out.bel T.out.bel)⟩ (HIN.out.below T.out.bel) HVL.out (by omega) (by omega) Hw1.heap.size.out).mono ?_
                rintro e w5 ⟨rfl, hb⟩
                rw [HFO.out]
                have T := Lib.hid (T.out.call hb)
                refine hK _ _ hb ?_
                clear hK K hb q0 q1 q2 y0
                refine seg_last ?_
                simp only [opsAt, List.filterMap_cons, List.filterMap_nil, List.getElem?_toArray, List.getElem?_cons_succ, List.getElem?_cons_zero]
                repeat (first | go_big_quiet_step (fail) | quiet_step (fail))
                refine wpQuiet_nil ?_
                have z1 := keep_cell T.out.bel HQY.out
                have y0 := keep_cell T.out.bel Y0.out
                go_wp2_with fail
                go_ret2
                rw [HE.out]
                exact ⟨_, rfl, HIN.out.below T.out.bel, bto SB.out.bel T.out.bel⟩
              · have hcq : (s == H) = false := by rw [beq_eq_false_iff_ne]; exact hc
                have HBD := Lib.hid (show isWhy (baseM t) H x = false by rw [isWhy, hf, hs, decide_eq_false hc]; rfl)
                clear hf hs hc hsb
                refine wp_region_seg [([0, 1, 2, 3, 4], 5)] [6, 7, 8, 9, 10] [] 11 (by kernel_rfl) (by kernel_rfl) ?_
                intro KQ hKQ w4 hb
                have T := Lib.hid (T.out.call hb)
                clear hb
                have q0 := cell_regrown (keep_cell T.out.bel HQ0.out)
                have q1 := cell_regrown (keep_cell T.out.bel HQ1.out)
                have q2 := cell_regrown (keep_cell T.out.bel HQ2.out)
                have y0 := cell_regrown (keep_cell T.out.bel Y0.out)
                refine seg_next ?_
                simp only [opsAt, List.filterMap_cons, List.filterMap_nil, List.getElem?_toArray, List.getElem?_cons_succ, List.getElem?_cons_zero]
                repeat (first | go_big_quiet_step (fail) | quiet_step (fail))
                refine wpQuiet_nil ?_
                intro K hK
                refine loud_op rfl rfl ?_
                go_simp
                refine (follows_any _ _ t x _ ⟨_, _, rfl, HSN.out.below (bto SB.out.bel T.out.bel), HSP.out.below (bto SB.out.bel T.out.bel)⟩ (HIN.out.below T.out.bel) HVL.out (by omega) (by omega) Hw1.heap.size.out).mono ?_
                rintro e w5 ⟨rfl, hb⟩
                rw [HFO.out]
                have T := Lib.hid (T.out.call hb)
                refine hK _ _ hb ?_
                clear hK K hb q0 q1 q2 y0
                refine seg_last ?_
                simp only [opsAt, List.filterMap_cons, List.filterMap_nil, List.getElem?_toArray, List.getElem?_cons_succ, List.getElem?_cons_zero]
                repeat (first | go_big_quiet_step (fail) | quiet_step (fail))
                refine wpQuiet_nil ?_
                have z1 := keep_cell T.out.bel HQY.out
                go_wp2_with fail
                go_roundw
                case rel => exact ⟨i + 1, by omega, by go_num, Lib.hid (by rw [HPX.out]; intro z hz; rcases List.mem_append.1 hz with h | h; exact HNB.out z h; rw [List.mem_singleton.1 h]; exact HBD.out), Lib.hid T.out.fix⟩
                case measure => first | (simp [intOf]; done) | (simp [intOf]; omega)
          · have hii : ¬ (i : Int) < (cs.length : Int) := by omega
            have HNO2 := Lib.hid (why_next (t := t) (v := well) (k := k) HNO.out (by
              rw [HNN.out, HVN.out, HHN.out]
              refine List.find?_eq_none.2 fun z hz => ?_
              rw [HNB.out z (by rw [List.take_of_length_le (by have := HCL.out; omega)]; exact hz)]
              simp))
            go_wp2_with fail
            have S := Lib.hid (SB.out.call T.out.bel)
            go_roundw
            case rel => exact ⟨k + 1, by omega, by have := HKM.out; rw [show (((k + 1 : Nat) : Int) + 1) = m + 1 by omega], HNO2, Lib.hid S.out.fix⟩
            case measure =>
              have := HKM.out
              first | (simp [intOf]; done) | (simp [intOf]; omega)
      · have hki : ¬ m ≤ t.wells := by rw [HNW.out]; have := HKM.out; omega
        have HE := Lib.hid (show whyP t well = ([], 3) from why_end HOP.out (by rw [HNN.out]; rw [show N = k by omega]; exact HNO.out))
        go_wp2_with fail
        go_ret2
        rw [HE.out]
        exact ⟨_, rfl, ints_nil' _, S.out.bel⟩
  · obtain ⟨e1, he⟩ : ∃ e1, openE t (isWell t.wells well) = e1 := ⟨_, rfl⟩
    have HLE := Lib.hid (show levelP t well = (⟨0, 0⟩, e1) by unfold levelP; rw [if_neg h, he])
    have HE := Lib.hid (show whyP t well = ([], e1) by unfold whyP; rw [if_neg h, he])
    have hne : (e1 != 0) = true := by rw [bne_iff_ne, ← he]; exact h
    clear h he h5
    go_enter Try.func26, Try.ntmps26
    have q_town0 := S.out.get 0 0 rfl rfl
    have q_town1 := S.out.get 0 1 rfl rfl
    have q_town2 := S.out.get 0 2 rfl rfl
    go_wp2_with fail
    refine (rLevel_any _ t well _ ⟨_, _, rfl, HSN.out.below S.out.bel, HSP.out.below S.out.bel⟩).mono ?_
    rintro e w1 ⟨rfl, hb⟩
    rw [HLE.out]
    have S := Lib.hid ((S.out.call hb).alloc [I 0, I 0] 40)
    clear hb
    clear q_town0 q_town1 q_town2
    go_wp2_with fail
    go_ret2
    rw [HE.out]
    exact ⟨_, rfl, ints_nil' _, S.out.bel⟩

end Go.Proofs.Ytplbaijdnpfdgaa
