/- Some of the words of a town. No function here. -/
import Derived.Test.YtplbaijdnpfdgaaV6
namespace Go.Proofs.Ytplbaijdnpfdgaa
open Go.RowKit Go.Sort

def Asc (l : List Nat) : Prop := l.Pairwise (· < ·)
theorem asc_eq : ∀ (l m : List Nat), Asc l → Asc m → (∀ x, x ∈ l ↔ x ∈ m) → l = m
  | [], [], _, _, _ => rfl
  | [], b :: m, _, _, h => by have := (h b).2 (by simp); simp at this
  | a :: l, [], _, _, h => by have := (h a).1 (by simp); simp at this
  | a :: l, b :: m, hl, hm, h => by
    obtain ⟨hl1, hl2⟩ := List.pairwise_cons.1 hl
    obtain ⟨hm1, hm2⟩ := List.pairwise_cons.1 hm
    have hab : a = b := by
      rcases List.mem_cons.1 ((h a).1 (by simp)) with e | e
      · exact e
      · rcases List.mem_cons.1 ((h b).2 (by simp)) with e' | e'
        · exact e'.symm
        · have := hm1 a e
          have := hl1 b e'
          omega
    subst hab
    congr 1
    refine asc_eq l m hl2 hm2 fun x => ⟨fun hx => ?_, fun hx => ?_⟩
    · rcases List.mem_cons.1 ((h x).1 (List.mem_cons_of_mem _ hx)) with e | e
      · have := hl1 x hx; omega
      · exact e
    · rcases List.mem_cons.1 ((h x).2 (List.mem_cons_of_mem _ hx)) with e | e
      · have := hm1 x hx; omega
      · exact e
theorem asc_range (M : Nat) : Asc (List.range M) := List.pairwise_lt_range
theorem asc_filter {ws : List Nat} {M : Nat} (h : Asc ws) (hb : ∀ n ∈ ws, n < M) : ws = (List.range M).filter (hasW ws) := by
  refine asc_eq _ _ h ((asc_range M).filter _) fun x => ?_
  simp only [List.mem_filter, List.mem_range, hasW, decide_eq_true_eq]
  exact ⟨fun hx => ⟨hb x hx, hx⟩, fun hx => hx.2⟩
theorem wordsT_filter (t : Twn) (p : Nat → Bool) : ∀ K, K ≤ t.snd.length + t.slp.length → wordsT t ((List.range K).filter p) = ⟨t.wells, subL p 0 (t.snd.take K), subL p t.snd.length (t.slp.take (K - t.snd.length))⟩
  | 0, _ => by simp [wordsT, subL]
  | K + 1, h => by
    have ih := wordsT_filter t p K (by omega)
    rw [List.range_succ, List.filter_append]
    by_cases hp : p K = true
    · have e : List.filter p [K] = [K] := by simp [hp]
      rw [e, wordsT, List.foldl_append]
      show addW t (wordsT t ((List.range K).filter p)) K = _
      rw [ih]
      by_cases hs : K < t.snd.length
      · rw [addW, if_pos hs, subL_snoc p t.snd 0 K hs, Nat.zero_add, if_pos hp, show K + 1 - t.snd.length = K - t.snd.length by omega]
        simp [addS, List.getElem?_eq_getElem hs]
      · have hk : K - t.snd.length < t.slp.length := by omega
        rw [addW, if_neg hs, List.take_of_length_le (show t.snd.length ≤ K by omega), List.take_of_length_le (show t.snd.length ≤ K + 1 by omega), show K + 1 - t.snd.length = (K - t.snd.length) + 1 by omega, subL_snoc p t.slp t.snd.length _ hk, show t.snd.length + (K - t.snd.length) = K by omega, if_pos hp]
        simp [addP, List.getElem?_eq_getElem hk]
    · have e : List.filter p [K] = [] := by simp [hp]
      rw [e, List.append_nil, ih]
      by_cases hs : K < t.snd.length
      · rw [subL_snoc p t.snd 0 K hs, Nat.zero_add, if_neg hp, List.append_nil, show K + 1 - t.snd.length = K - t.snd.length by omega]
      · have hk : K - t.snd.length < t.slp.length := by omega
        rw [List.take_of_length_le (show t.snd.length ≤ K by omega), List.take_of_length_le (show t.snd.length ≤ K + 1 by omega), show K + 1 - t.snd.length = (K - t.snd.length) + 1 by omega, subL_snoc p t.slp t.snd.length _ hk, show t.snd.length + (K - t.snd.length) = K by omega, if_neg hp, List.append_nil]
theorem wordsT_sub (t : Twn) (p : Nat → Bool) : wordsT t ((List.range (t.snd.length + t.slp.length)).filter p) = sub t p := by
  rw [wordsT_filter t p _ (Nat.le_refl _), sub, List.take_of_length_le (by omega), List.take_of_length_le (by omega)]
/-- Some words, in their order. -/
theorem words_asc {t : Twn} {ws : List Nat} (h : Asc ws) (hb : ∀ n ∈ ws, n < t.snd.length + t.slp.length) : wordsT t ws = sub t (hasW ws) := by
  rw [← wordsT_sub, ← asc_filter h hb]
theorem butL_map (ws : List Nat) (k : Nat) : butL (ofN ws) k = ofN (ws.eraseIdx k) := by
  rw [butL, ofN, ofN, List.eraseIdx_eq_take_drop_succ, List.map_append, List.map_take, List.map_drop]
theorem erase_asc {ws : List Nat} (h : Asc ws) (k : Nat) : Asc (ws.eraseIdx k) := h.sublist (List.eraseIdx_sublist _ _)
theorem erase_range {M k : Nat} : (List.range M).eraseIdx k = (List.range M).filter (butW k) := by
  refine asc_eq _ _ (erase_asc (asc_range M) k) ((asc_range M).filter _) fun x => ?_
  rw [List.mem_eraseIdx_iff_getElem]
  simp only [List.mem_filter, List.mem_range, butW, bne_iff_ne, ne_eq]
  constructor
  · rintro ⟨j, hj, hne, rfl⟩
    simp at hj ⊢
    omega
  · rintro ⟨h1, h2⟩
    exact ⟨x, by simpa using h1, h2, by simp⟩
theorem words_but (t : Twn) (k : Nat) : wordsT t ((allN t).eraseIdx k) = sub t (butW k) := by
  rw [allN, erase_range, wordsT_sub]
theorem Vl.valid' {t : Twn} (h : Vl t) (h1 : t.snd.length ≤ 8) (h2 : t.slp.length ≤ 8) : valid t = true := valid_iff'.2 ⟨h, h1, h2⟩
theorem sub_len (t : Twn) (is : Nat → Bool) : (sub t is).snd.length ≤ t.snd.length ∧ (sub t is).slp.length ≤ t.slp.length := ⟨(subL_sublist _ _ _).length_le, (subL_sublist _ _ _).length_le⟩
theorem sub_valid {t : Twn} (h : valid t = true) (is : Nat → Bool) : valid (sub t is) = true := by
  obtain ⟨h1, h2, h3⟩ := valid_iff'.1 h
  have := sub_len t is
  exact (h1.sub is).valid' (by omega) (by omega)
theorem sub_one {t : Twn} (h : openE t true = 0) (is : Nat → Bool) : openE (sub t is) true = 0 := by
  obtain ⟨x, hx⟩ := has_truth h
  exact open_of_truth (sub_valid (openE_zero' h).1 is) hx.sub
theorem Sp.ext' {a b : Sp} (h1 : a.low = b.low) (h2 : a.high = b.high) : a = b := by
  cases a; cases b; simp_all
theorem same_lows {t o : Twn} (hw : o.wells = t.wells) : sameL (closeM (baseM t)) (closeM (baseM o)) (List.range t.wells.toNat) = (decide (lowL t = lowL o) && decide (highL t = highL o)) := by
  rw [Bool.eq_iff_iff, Bool.and_eq_true, decide_eq_true_eq, decide_eq_true_eq]
  unfold sameL lowL highL
  rw [hw, List.all_eq_true]
  constructor
  · intro h
    constructor
    · refine List.map_congr_left fun x hx => ?_
      rw [eq_of_beq (h x hx)]
    · refine List.map_congr_left fun x hx => ?_
      rw [eq_of_beq (h x hx)]
  · rintro ⟨h1, h2⟩ x hx
    have a := List.map_inj_left.1 h1 x hx
    have b := List.map_inj_left.1 h2 x hx
    rw [beq_iff_eq]
    exact Sp.ext' a b
theorem mem_idle {t : Twn} {M k : Nat} (hk : k < M) : ((k : Nat) : Int) ∈ idleTo t M ↔ sameL (closeM (baseM t)) (closeM (baseM (sub t (butW k)))) (List.range t.wells.toNat) = true := by
  unfold idleTo
  rw [List.mem_map]
  constructor
  · rintro ⟨a, ha, e⟩
    obtain rfl : a = k := by omega
    exact (List.mem_filter.1 ha).2
  · intro h
    exact ⟨k, List.mem_filter.2 ⟨List.mem_range.2 hk, h⟩, rfl⟩
end Go.Proofs.Ytplbaijdnpfdgaa
