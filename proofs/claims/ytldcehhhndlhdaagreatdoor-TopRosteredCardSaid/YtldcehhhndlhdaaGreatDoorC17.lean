/- Walks of the reference: In, All, But, Words. -/
import Derived.Test.YtldcehhhndlhdaaGreatDoorC16
namespace Go.Proofs.YtldcehhhndlhdaaGreatDoor
open Go.RowKit Go.Sort

set_option maxRecDepth 20000 in
set_option maxHeartbeats 1000000 in
theorem in_any (v : Value) (xs : List Int) (n : Int) (w : World) (hr : Ints w v xs) :
    Calls Tryz.prog 18 #[v, I n] w fun e w' => e = .returned (.bool (decide (n ∈ xs))) ∧ Below w.heap.size w w' := by
  obtain ⟨A, c, rfl, hnc, hcm, hc⟩ := hr.open_
  have HC := Lib.hid hc; clear hc hr
  go_enter Tryz.func18, Tryz.ntmps18
  go_wp2_with fail
  go_loopw [5] (fun i wr => ∃ k : Nat, k ≤ xs.length ∧ i = I k ∧ Hid (n ∉ xs.take k) ∧ Hid (Below w.heap.size w wr)) (fun i _ => xs.length - (intOf i).toNat)
  case atStart => exact ⟨0, by omega, rfl, Lib.hid (by simp), Lib.hid (Below.refl _ _)⟩
  case round =>
    obtain ⟨k, hk, rfl, hn, hw⟩ := hrel
    by_cases hlt : k < xs.length
    · obtain ⟨b, o, rfl, hbl, hcell⟩ := HC.out (by omega)
      have x0 := keep_cell hw.out (hcell k hlt)
      clear hcell
      have hmem := List.getElem_mem hlt
      have htk : xs.take (k + 1) = xs.take k ++ [xs[k]] := List.take_succ_eq_append_getElem hlt
      obtain ⟨x, hx⟩ : ∃ x, xs[k] = x := ⟨_, rfl⟩
      rw [hx] at x0 hmem htk
      have HM := Lib.hid hmem
      have HT := Lib.hid htk
      clear hx hmem htk
      cases he : x == n
      · have HNE := Lib.hid (show x ≠ n by simpa using he)
        go_wp2_with fail
        go_roundw
        case rel => exact ⟨k + 1, by omega, by go_num, Lib.hid (by rw [HT.out, List.mem_append]; exact fun hm => hm.elim hn.out (fun e => HNE.out (List.mem_singleton.1 e).symm)), hw⟩
        case measure => simp [intOf]; omega
      · have HE := Lib.hid (show n ∈ xs by have e := eq_of_beq he; rw [← e]; exact HM.out)
        go_wp2_with fail
        go_ret
        exact ⟨by rw [decide_eq_true HE.out]; rfl, hw.out⟩
    · have HE := Lib.hid (show n ∉ xs by have := hn.out; rwa [List.take_of_length_le (by omega)] at this)
      go_wp2_with fail
      go_ret
      exact ⟨by rw [decide_eq_false HE.out]; rfl, hw.out⟩

def RetRow (l : List Int) (w : World) (e : Ending) (w' : World) : Prop := ∃ v, e = .returned v ∧ w'.ownsRow w.heap.size 3 1 v l.length (l.map I) ∧ Below w.heap.size w w'
def allN (t : Twn) : List Nat := List.range (t.snd.length + t.slp.length)
theorem ofN_range_succ (k : Nat) : ofN (List.range (k + 1)) = ofN (List.range k) ++ [(k : Int)] := by rw [List.range_succ]; simp [ofN]

theorem ints_prefix {w : World} {b o c k : Nat} {xs : List Int} (_ : xs.length ≤ 1000) (hk : k ≤ xs.length) (hc : xs.length ≤ c) (hm : c ≤ 9223372036854775807) (h : ∀ (j : Nat) (hj : j < xs.length), w.cell? ⟨b, o + j, none⟩ = some (I xs[j])) : Ints w (.slice (some ⟨b, o, none⟩) k c) (xs.take k) := by
  have hl : (xs.take k).length = k := by rw [List.length_take]; omega
  unfold Ints
  rw [hl]
  refine ⟨by simp; omega, _, _, rfl, by omega, hm, fun _ => ⟨b, o, rfl, fun j u hu => ?_⟩⟩
  rw [List.getElem?_map] at hu
  cases hj : (xs.take k)[j]? with
  | none => rw [hj] at hu; simp at hu
  | some z =>
    rw [hj] at hu
    simp only [Option.map_some, Option.some.injEq] at hu
    subst hu
    obtain ⟨h1, h2⟩ := List.getElem?_eq_some_iff.1 hj
    rw [List.getElem_take] at h2
    rw [← h2]
    exact h j (by rw [hl] at h1; omega)
theorem ints_suffix {w : World} {b o c k : Nat} {xs : List Int} (hk : k ≤ xs.length) (hc : xs.length ≤ c) (hm : c ≤ 9223372036854775807) (h : ∀ (j : Nat) (hj : j < xs.length), w.cell? ⟨b, o + j, none⟩ = some (I xs[j])) (A : Option Addr) (hA : k < xs.length → A = some ⟨b, o + k, none⟩) : Ints w (.slice A (xs.length - k) (c - k)) (xs.drop k) := by
  have hl : (xs.drop k).length = xs.length - k := List.length_drop
  unfold Ints
  rw [hl]
  refine ⟨by simp, _, _, rfl, by omega, by omega, fun hp => ⟨b, o + k, hA (by omega), fun j u hu => ?_⟩⟩
  rw [List.getElem?_map] at hu
  cases hj : (xs.drop k)[j]? with
  | none => rw [hj] at hu; simp at hu
  | some z =>
    rw [hj] at hu
    simp only [Option.map_some, Option.some.injEq] at hu
    subst hu
    obtain ⟨h1, h2⟩ := List.getElem?_eq_some_iff.1 hj
    rw [List.getElem_drop] at h2
    rw [← h2, Nat.add_assoc]
    exact h (k + j) (by rw [hl] at h1; omega)

def butL (l : List Int) (k : Nat) : List Int := l.take k ++ l.drop (k + 1)
/-- A town with some of its words alone. -/
def addW (t o : Twn) (n : Nat) : Twn := if n < t.snd.length then addS o (t.snd.getD n default) else addP o (t.slp.getD (n - t.snd.length) default)
def wordsT (t : Twn) (ws : List Nat) : Twn := ws.foldl (addW t) ⟨t.wells, [], []⟩
theorem wordsT_succ {t : Twn} {ws : List Nat} {k : Nat} (h : k < ws.length) : wordsT t (ws.take (k + 1)) = addW t (wordsT t (ws.take k)) ws[k] := by
  rw [wordsT, List.take_succ_eq_append_getElem h, List.foldl_append]
  rfl
theorem wordsT_wells (t : Twn) (ws : List Nat) : (wordsT t ws).wells = t.wells := by
  have : ∀ (l : List Nat) (o : Twn), (l.foldl (addW t) o).wells = o.wells := by
    intro l
    induction l with
    | nil => intro o; rfl
    | cons a l ih => intro o; rw [List.foldl_cons, ih]; unfold addW; split <;> rfl
  exact this ws _
theorem wordsT_len (t : Twn) (ws : List Nat) : (wordsT t ws).snd.length ≤ ws.length ∧ (wordsT t ws).slp.length ≤ ws.length := by
  have : ∀ (l : List Nat) (o : Twn), (l.foldl (addW t) o).snd.length ≤ o.snd.length + l.length ∧ (l.foldl (addW t) o).slp.length ≤ o.slp.length + l.length := by
    intro l
    induction l with
    | nil => intro o; simp
    | cons a l ih =>
      intro o
      have := ih (addW t o a)
      rw [List.foldl_cons]
      have h2 : (addW t o a).snd.length ≤ o.snd.length + 1 ∧ (addW t o a).slp.length ≤ o.slp.length + 1 := by unfold addW; split <;> simp [addS, addP]
      simp only [List.length_cons]
      omega
  have := this ws ⟨t.wells, [], []⟩
  simpa [wordsT] using this

theorem St.rot3 {w0 w : World} {n : Nat} {x y z : Item} {K : List Item} (h : St w0 w n (x :: y :: z :: K)) : St w0 w n (z :: x :: y :: K) := by
  refine h.perm ?_
  exact (List.Perm.cons x (List.Perm.swap z y K)).trans (List.Perm.swap z x _)

end Go.Proofs.YtldcehhhndlhdaaGreatDoor
/- Some of the words of a town. No function here. -/
namespace Go.Proofs.YtldcehhhndlhdaaGreatDoor
open Go.RowKit Go.Sort

def Asc (l : List Nat) : Prop := l.Pairwise (· < ·)
theorem asc_eq : ∀ (l m : List Nat), Asc l → Asc m → (∀ x, x ∈ l ↔ x ∈ m) → l = m
  | [], [], _, _, _ => rfl
  | [], b :: m, _, _, h => by have := (h b).2 (by simp); simp at this
  | a :: l, [], _, _, h => by have := (h a).1 (by simp); simp at this
  | a :: l, b :: m, hl, hm, h => by
    obtain ⟨hl1, hl2⟩ := List.pairwise_cons.1 hl
    obtain ⟨hm1, hm2⟩ := List.pairwise_cons.1 hm
    have hab : a = b := by
      rcases List.mem_cons.1 ((h a).1 (by simp)) with e | e
      · exact e
      · rcases List.mem_cons.1 ((h b).2 (by simp)) with e' | e'
        · exact e'.symm
        · have := hm1 a e
          have := hl1 b e'
          omega
    subst hab
    congr 1
    refine asc_eq l m hl2 hm2 fun x => ⟨fun hx => ?_, fun hx => ?_⟩
    · rcases List.mem_cons.1 ((h x).1 (List.mem_cons_of_mem _ hx)) with e | e
      · have := hl1 x hx; omega
      · exact e
    · rcases List.mem_cons.1 ((h x).2 (List.mem_cons_of_mem _ hx)) with e | e
      · have := hm1 x hx; omega
      · exact e
theorem asc_range (M : Nat) : Asc (List.range M) := List.pairwise_lt_range
theorem asc_filter {ws : List Nat} {M : Nat} (h : Asc ws) (hb : ∀ n ∈ ws, n < M) : ws = (List.range M).filter (hasW ws) := by
  refine asc_eq _ _ h ((asc_range M).filter _) fun x => ?_
  simp only [List.mem_filter, List.mem_range, hasW, decide_eq_true_eq]
  exact ⟨fun hx => ⟨hb x hx, hx⟩, fun hx => hx.2⟩
theorem wordsT_filter (t : Twn) (p : Nat → Bool) : ∀ K, K ≤ t.snd.length + t.slp.length → wordsT t ((List.range K).filter p) = ⟨t.wells, subL p 0 (t.snd.take K), subL p t.snd.length (t.slp.take (K - t.snd.length))⟩
  | 0, _ => by simp [wordsT, subL]
  | K + 1, h => by
    have ih := wordsT_filter t p K (by omega)
    rw [List.range_succ, List.filter_append]
    by_cases hp : p K = true
    · have e : List.filter p [K] = [K] := by simp [hp]
      rw [e, wordsT, List.foldl_append]
      show addW t (wordsT t ((List.range K).filter p)) K = _
      rw [ih]
      by_cases hs : K < t.snd.length
      · rw [addW, if_pos hs, subL_snoc p t.snd 0 K hs, Nat.zero_add, if_pos hp, show K + 1 - t.snd.length = K - t.snd.length by omega]
        simp [addS, List.getElem?_eq_getElem hs]
      · have hk : K - t.snd.length < t.slp.length := by omega
        rw [addW, if_neg hs, List.take_of_length_le (show t.snd.length ≤ K by omega), List.take_of_length_le (show t.snd.length ≤ K + 1 by omega), show K + 1 - t.snd.length = (K - t.snd.length) + 1 by omega, subL_snoc p t.slp t.snd.length _ hk, show t.snd.length + (K - t.snd.length) = K by omega, if_pos hp]
        simp [addP, List.getElem?_eq_getElem hk]
    · have e : List.filter p [K] = [] := by simp [hp]
      rw [e, List.append_nil, ih]
      by_cases hs : K < t.snd.length
      · rw [subL_snoc p t.snd 0 K hs, Nat.zero_add, if_neg hp, List.append_nil, show K + 1 - t.snd.length = K - t.snd.length by omega]
      · have hk : K - t.snd.length < t.slp.length := by omega
        rw [List.take_of_length_le (show t.snd.length ≤ K by omega), List.take_of_length_le (show t.snd.length ≤ K + 1 by omega), show K + 1 - t.snd.length = (K - t.snd.length) + 1 by omega, subL_snoc p t.slp t.snd.length _ hk, show t.snd.length + (K - t.snd.length) = K by omega, if_neg hp, List.append_nil]
theorem wordsT_sub (t : Twn) (p : Nat → Bool) : wordsT t ((List.range (t.snd.length + t.slp.length)).filter p) = sub t p := by
  rw [wordsT_filter t p _ (Nat.le_refl _), sub, List.take_of_length_le (by omega), List.take_of_length_le (by omega)]
/-- Some words, in their order. -/
theorem words_asc {t : Twn} {ws : List Nat} (h : Asc ws) (hb : ∀ n ∈ ws, n < t.snd.length + t.slp.length) : wordsT t ws = sub t (hasW ws) := by
  rw [← wordsT_sub, ← asc_filter h hb]
theorem butL_map (ws : List Nat) (k : Nat) : butL (ofN ws) k = ofN (ws.eraseIdx k) := by
  rw [butL, ofN, ofN, List.eraseIdx_eq_take_drop_succ, List.map_append, List.map_take, List.map_drop]
theorem erase_asc {ws : List Nat} (h : Asc ws) (k : Nat) : Asc (ws.eraseIdx k) := h.sublist (List.eraseIdx_sublist _ _)
theorem erase_range {M k : Nat} : (List.range M).eraseIdx k = (List.range M).filter (butW k) := by
  refine asc_eq _ _ (erase_asc (asc_range M) k) ((asc_range M).filter _) fun x => ?_
  rw [List.mem_eraseIdx_iff_getElem]
  simp only [List.mem_filter, List.mem_range, butW, bne_iff_ne, ne_eq]
  constructor
  · rintro ⟨j, hj, hne, rfl⟩
    simp at hj ⊢
    omega
  · rintro ⟨h1, h2⟩
    exact ⟨x, by simpa using h1, h2, by simp⟩
theorem words_but (t : Twn) (k : Nat) : wordsT t ((allN t).eraseIdx k) = sub t (butW k) := by
  rw [allN, erase_range, wordsT_sub]
theorem Vl.valid' {t : Twn} (h : Vl t) (h1 : t.snd.length ≤ 8) (h2 : t.slp.length ≤ 8) : valid t = true := valid_iff'.2 ⟨h, h1, h2⟩
theorem sub_len (t : Twn) (is : Nat → Bool) : (sub t is).snd.length ≤ t.snd.length ∧ (sub t is).slp.length ≤ t.slp.length := ⟨(subL_sublist _ _ _).length_le, (subL_sublist _ _ _).length_le⟩
theorem sub_valid {t : Twn} (h : valid t = true) (is : Nat → Bool) : valid (sub t is) = true := by
  obtain ⟨h1, h2, h3⟩ := valid_iff'.1 h
  have := sub_len t is
  exact (h1.sub is).valid' (by omega) (by omega)
theorem sub_one {t : Twn} (h : openE t true = 0) (is : Nat → Bool) : openE (sub t is) true = 0 := by
  obtain ⟨x, hx⟩ := has_truth h
  exact open_of_truth (sub_valid (openE_zero' h).1 is) hx.sub
theorem Sp.ext' {a b : Sp} (h1 : a.low = b.low) (h2 : a.high = b.high) : a = b := by
  cases a; cases b; simp_all
theorem same_lows {t o : Twn} (hw : o.wells = t.wells) : sameL (closeM (baseM t)) (closeM (baseM o)) (List.range t.wells.toNat) = (decide (lowL t = lowL o) && decide (highL t = highL o)) := by
  rw [Bool.eq_iff_iff, Bool.and_eq_true, decide_eq_true_eq, decide_eq_true_eq]
  unfold sameL lowL highL
  rw [hw, List.all_eq_true]
  constructor
  · intro h
    constructor
    · refine List.map_congr_left fun x hx => ?_
      rw [eq_of_beq (h x hx)]
    · refine List.map_congr_left fun x hx => ?_
      rw [eq_of_beq (h x hx)]
  · rintro ⟨h1, h2⟩ x hx
    have a := List.map_inj_left.1 h1 x hx
    have b := List.map_inj_left.1 h2 x hx
    rw [beq_iff_eq]
    exact Sp.ext' a b
theorem mem_idle {t : Twn} {M k : Nat} (hk : k < M) : ((k : Nat) : Int) ∈ idleTo t M ↔ sameL (closeM (baseM t)) (closeM (baseM (sub t (butW k)))) (List.range t.wells.toNat) = true := by
  unfold idleTo
  rw [List.mem_map]
  constructor
  · rintro ⟨a, ha, e⟩
    obtain rfl : a = k := by omega
    exact (List.mem_filter.1 ha).2
  · intro h
    exact ⟨k, List.mem_filter.2 ⟨List.mem_range.2 hk, h⟩, rfl⟩
end Go.Proofs.YtldcehhhndlhdaaGreatDoor
