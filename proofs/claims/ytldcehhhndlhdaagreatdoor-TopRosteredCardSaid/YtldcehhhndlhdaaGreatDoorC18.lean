/- The first of the shortest lists of words that contradict each other. No function here. -/
import Derived.Test.YtldcehhhndlhdaaGreatDoorC17
import Derived.Test.YtldcehhhndlhdaaGreatDoorC16
import Derived.Test.YtldcehhhndlhdaaGreatDoorC2
namespace Go.Proofs.YtldcehhhndlhdaaGreatDoor
open Go.RowKit Go.Sort

def earlierL : List Int → List Int → Bool
  | a :: a', b :: b' => if a = b then earlierL a' b' else decide (a < b)
  | _, _ => false
theorem earlier_self : ∀ l : List Int, earlierL l l = false
  | [] => rfl
  | a :: l => by rw [earlierL, if_pos rfl]; exact earlier_self l
theorem earlier_asymm : ∀ a b : List Int, earlierL a b = true → earlierL b a = false
  | [], _, h => by simp [earlierL] at h
  | _ :: _, [], h => by simp [earlierL] at h
  | a :: a', b :: b', h => by
    rw [earlierL] at h ⊢
    by_cases e : a = b
    · rw [if_pos e] at h; rw [if_pos e.symm]; exact earlier_asymm a' b' h
    · rw [if_neg e] at h; rw [if_neg (fun h => e h.symm)]
      have := of_decide_eq_true h
      exact decide_eq_false (by omega)
theorem earlier_pre {n m : Int} (h : n < m) (a b : List Int) : ∀ l : List Int, earlierL (l ++ n :: a) (l ++ m :: b) = true
  | [] => by rw [List.nil_append, List.nil_append, earlierL, if_neg (by omega)]; exact decide_eq_true h
  | x :: l => by rw [List.cons_append, List.cons_append, earlierL, if_pos rfl]; exact earlier_pre h a b l
theorem earlier_drop {xs ys : List Int} {k : Nat} (h1 : k < xs.length) (h2 : k < ys.length) (e : xs.getD k 0 = ys.getD k 0) : earlierL (xs.drop k) (ys.drop k) = earlierL (xs.drop (k + 1)) (ys.drop (k + 1)) := by
  have a1 : xs.getD k 0 = xs[k] := by simp [List.getElem?_eq_getElem h1]
  have a2 : ys.getD k 0 = ys[k] := by simp [List.getElem?_eq_getElem h2]
  rw [List.drop_eq_getElem_cons h1, List.drop_eq_getElem_cons h2, earlierL, if_pos (by rw [← a1, ← a2, e])]
theorem earlier_here {xs ys : List Int} {k : Nat} (h1 : k < xs.length) (h2 : k < ys.length) (e : xs.getD k 0 ≠ ys.getD k 0) : earlierL (xs.drop k) (ys.drop k) = decide (xs.getD k 0 < ys.getD k 0) := by
  have a1 : xs.getD k 0 = xs[k] := by simp [List.getElem?_eq_getElem h1]
  have a2 : ys.getD k 0 = ys[k] := by simp [List.getElem?_eq_getElem h2]
  rw [List.drop_eq_getElem_cons h1, List.drop_eq_getElem_cons h2, earlierL, a1, a2, if_neg (by rw [← a1, ← a2]; exact e)]
theorem earlier_end {xs ys : List Int} {k : Nat} (h : ¬ (k < xs.length ∧ k < ys.length)) : earlierL (xs.drop k) (ys.drop k) = false := by
  by_cases h1 : k < xs.length
  · have : ys.drop k = [] := List.drop_eq_nil_of_le (by omega)
    rw [this]; cases xs.drop k <;> rfl
  · have : xs.drop k = [] := List.drop_eq_nil_of_le (by omega)
    rw [this]; rfl

theorem getD_at {α : Type} {l : List α} {i : Nat} (h : i < l.length) (d : α) : l.getD i d = l[i] := by simp [List.getElem?_eq_getElem h]
theorem nextN_mem {l : List Nat} (h : Asc l) : ∀ x ∈ l, x < nextN l := by
  intro x hx
  unfold nextN
  rcases List.eq_nil_or_concat l with rfl | ⟨m, y, rfl⟩
  · simp at hx
  · rw [List.concat_eq_append] at *
    simp only [List.getLast?_append, List.getLast?_singleton, Option.some_or]
    rcases List.mem_append.1 hx with h1 | h1
    · have := (List.pairwise_append.1 h).2.2 x h1 y (by simp)
      omega
    · have := List.mem_singleton.1 h1
      omega
theorem asc_snoc {l : List Nat} {n : Nat} (h : Asc l) (hn : nextN l ≤ n) : Asc (l ++ [n]) :=
  List.pairwise_append.2 ⟨h, List.pairwise_singleton _ _, fun a ha b hb => by
    have := nextN_mem h a ha
    have := List.mem_singleton.1 hb
    omega⟩
theorem listsD_pre {M : Nat} : ∀ (d : Nat) (l x : List Nat), x ∈ listsD M d l → l <+: x
  | 0, l, x, h => by
    have : x = l := by simpa [listsD] using h
    rw [this]; exact List.prefix_refl l
  | d + 1, l, x, h => by
    obtain ⟨n, _, hx⟩ := List.mem_flatMap.1 h
    exact (List.prefix_append l [n]).trans (listsD_pre d _ x hx)
theorem listsD_asc {M : Nat} : ∀ (d : Nat) (l x : List Nat), Asc l → (∀ n ∈ l, n < M) → x ∈ listsD M d l → Asc x ∧ ∀ n ∈ x, n < M
  | 0, l, x, h1, h2, h => by
    have : x = l := by simpa [listsD] using h
    rw [this]; exact ⟨h1, h2⟩
  | d + 1, l, x, h1, h2, h => by
    obtain ⟨n, hn, hx⟩ := List.mem_flatMap.1 h
    have hn := List.mem_range'_1.1 hn
    refine listsD_asc d (l ++ [n]) x (asc_snoc h1 hn.1) (fun m hm => ?_) hx
    rcases List.mem_append.1 hm with h | h
    · exact h2 m h
    · have := List.mem_singleton.1 h
      omega
theorem listsD_all {M : Nat} : ∀ (d : Nat) (l r : List Nat), Asc (l ++ r) → (∀ n ∈ l ++ r, n < M) → r.length = d → l ++ r ∈ listsD M d l
  | 0, l, r, _, _, h => by
    rw [List.length_eq_zero_iff.1 h, List.append_nil]
    simp [listsD]
  | d + 1, l, [], _, _, h => by simp at h
  | d + 1, l, n :: r, h1, h2, h => by
    have e : l ++ n :: r = (l ++ [n]) ++ r := by simp
    refine List.mem_flatMap.2 ⟨n, List.mem_range'_1.2 ⟨?_, ?_⟩, ?_⟩
    · unfold nextN
      rcases List.eq_nil_or_concat l with rfl | ⟨m, y, rfl⟩
      · simp
      · rw [List.concat_eq_append] at *
        simp only [List.getLast?_append, List.getLast?_singleton, Option.some_or]
        have := (List.pairwise_append.1 h1).2.2 y (by simp) n (by simp)
        omega
    · have := h2 n (by simp)
      omega
    · rw [e]
      exact listsD_all d (l ++ [n]) r (by rw [← e]; exact h1) (by rw [← e]; exact h2) (by simpa using h)
theorem ofN_append (a b : List Nat) : ofN (a ++ b) = ofN a ++ ofN b := by simp [ofN]
theorem listsD_order {M : Nat} : ∀ (d : Nat) (l : List Nat), (listsD M d l).Pairwise fun a b => earlierL (ofN a) (ofN b) = true
  | 0, l => by simp [listsD]
  | d + 1, l => by
    rw [listsD, List.pairwise_flatMap]
    refine ⟨fun n _ => listsD_order d _, (List.pairwise_lt_range' (s := nextN l) (n := M - nextN l) (step := 1) (by omega)).imp ?_⟩
    intro a b hab x hx y hy
    obtain ⟨x', rfl⟩ := listsD_pre d _ x hx
    obtain ⟨y', rfl⟩ := listsD_pre d _ y hy
    simp only [ofN_append, List.append_assoc]
    exact earlier_pre (n := (a : Int)) (m := (b : Int)) (by omega) (ofN x') (ofN y') (ofN l)
theorem find_first {p : List Nat → Bool} {L : List (List Nat)} (ho : L.Pairwise fun a b => earlierL (ofN a) (ofN b) = true) {x y : List Nat} (h : L.find? p = some x) (hy : y ∈ L) (hp : p y = true) : earlierL (ofN y) (ofN x) = false := by
  obtain ⟨_, p1, p2, rfl, has⟩ := List.find?_eq_some_iff_append.1 h
  rcases List.mem_append.1 hy with h1 | h1
  · have := has y h1
    simp [hp] at this
  · rcases List.mem_cons.1 h1 with rfl | h1
    · exact earlier_self _
    · exact earlier_asymm _ _ ((List.pairwise_cons.1 (List.pairwise_append.1 ho).2.1).1 y h1)
theorem clashTo_iff {t : Twn} {M : Nat} : ∀ (K : Nat) {l : List Nat}, clashTo t M K = some l → ∃ k, k < K ∧ (listsD M k []).find? (badW t) = some l ∧ ∀ j, j < k → (listsD M j []).find? (badW t) = none
  | 0, l, h => by simp [clashTo] at h
  | K + 1, l, h => by
    rw [clashTo] at h
    cases g : clashTo t M K with
    | some m =>
      rw [g] at h
      obtain rfl : m = l := by simpa using h
      obtain ⟨k, hk, h1, h2⟩ := clashTo_iff K g
      exact ⟨k, by omega, h1, h2⟩
    | none =>
      rw [g] at h
      exact ⟨K, by omega, h, fun j hj => clashTo_none K g j hj⟩
where clashTo_none {t : Twn} {M : Nat} : ∀ K, clashTo t M K = none → ∀ j, j < K → (listsD M j []).find? (badW t) = none
  | 0, _, j, hj => by omega
  | K + 1, h, j, hj => by
    rw [clashTo] at h
    cases g : clashTo t M K with
    | some m => rw [g] at h; simp at h
    | none =>
      rw [g] at h
      by_cases e : j = K
      · rw [e]; exact h
      · exact clashTo_none K g j (by omega)
theorem subL_all' {α : Type} (is : Nat → Bool) : ∀ (i : Nat) (l : List α), (∀ j, i ≤ j → j < i + l.length → is j = true) → subL is i l = l
  | _, [], _ => rfl
  | i, x :: l, h => by
    rw [subL, if_pos (h i (by omega) (by simp)), subL_all' is (i + 1) l fun j h1 h2 => h j (by omega) (by simp; omega)]
theorem subL_none {α : Type} : ∀ (i : Nat) (l : List α), subL (hasW []) i l = []
  | _, [] => rfl
  | i, x :: l => by rw [subL, if_neg (by simp [hasW]), subL_none]
theorem bad_all {t : Twn} (hd : diagOk (closeM (baseM t)) = false) : badW t (List.range (t.snd.length + t.slp.length)) = true := by
  have e : sub t (hasW (List.range (t.snd.length + t.slp.length))) = t := by
    unfold sub
    rw [subL_all' _ _ t.snd fun j _ h => by simp [hasW]; omega, subL_all' _ _ t.slp fun j _ h => by simp [hasW]; omega]
  rw [badW, e, hd]; rfl
theorem bad_iff {t : Twn} (hv : valid t = true) (l : List Nat) : badW t l = true ↔ openE (sub t (hasW l)) true = 3 := by
  have hs := sub_valid hv (hasW l)
  unfold badW openE
  cases diagOk (closeM (baseM (sub t (hasW l)))) <;> simp [hs]
theorem bad_nil {t : Twn} (hv : valid t = true) : badW t [] = false := by
  rw [Bool.eq_false_iff]
  intro h
  have h := (bad_iff hv []).1 h
  have : openE (sub t (hasW [])) true = 0 := open_of_truth (sub_valid hv _) (x := fun _ => 0) ⟨fun _ _ => by omega, fun s hs => by simp [sub, subL_none] at hs, fun s hs => by simp [sub, subL_none] at hs⟩
  omega
theorem subL_mono {α : Type} {p q : Nat → Bool} (h : ∀ i, p i = true → q i = true) : ∀ (i : Nat) (l : List α) {s : α}, s ∈ subL p i l → s ∈ subL q i l
  | _, [], s, hs => hs
  | i, x :: l, s, hs => by
    rw [subL] at hs ⊢
    by_cases e : p i = true
    · rw [if_pos e] at hs
      rw [if_pos (h i e)]
      rcases List.mem_cons.1 hs with rfl | hs
      · exact List.mem_cons_self
      · exact List.mem_cons_of_mem _ (subL_mono h (i + 1) l hs)
    · rw [if_neg e] at hs
      have := subL_mono h (i + 1) l hs
      split
      · exact List.mem_cons_of_mem _ this
      · exact this
theorem bad_mono {t : Twn} (hv : valid t = true) {l m : List Nat} (hlm : ∀ x ∈ l, x ∈ m) (h : badW t l = true) : badW t m = true := by
  rw [bad_iff hv] at h ⊢
  refine openE_three_of (sub_valid hv _) fun ⟨x, hx⟩ => no_truth (sub_valid hv _) h ⟨x, ⟨hx.own, fun s hs => hx.snd s (subL_mono ?_ _ _ hs), fun s hs => hx.slp s (subL_mono ?_ _ _ hs)⟩⟩
  all_goals
    intro i hi
    simp only [hasW, decide_eq_true_eq] at hi ⊢
    exact hlm i hi
theorem clash_zero {t : Twn} (h : openE t true = 0) : clashP t = ([], 3) := by
  obtain ⟨hv, hd⟩ := openE_zero' h
  simp [clashP, hv, hd]
/-- What Clash is, of a town without a truth. -/
structure ClashIs (t : Twn) (l : List Nat) : Prop where
  ne : 0 < l.length
  asc : Asc l
  lt : ∀ n ∈ l, n < t.snd.length + t.slp.length
  bad : badW t l = true
  but : ∀ k, k < l.length → badW t (l.eraseIdx k) = false
  least : ∀ ws, Asc ws → (∀ n ∈ ws, n < t.snd.length + t.slp.length) → badW t ws = true → l.length < ws.length ∨ ws.length = l.length ∧ earlierL (ofN ws) (ofN l) = false
theorem clash_said {t : Twn} (hv : valid t = true) (h : openE t true = 3) : ∃ l, clashP t = (l, 0) ∧ ClashIs t l := by
  obtain ⟨M, hM⟩ : ∃ M, M = t.snd.length + t.slp.length := ⟨_, rfl⟩
  have hd : diagOk (closeM (baseM t)) = false := by
    rw [Bool.eq_false_iff]; intro e
    simp [openE, hv, e] at h
  have hall : List.range M ∈ listsD M M [] := listsD_all M [] (List.range M) (by simpa using asc_range M) (by simp) (by simp)
  cases g : clashTo t M (M + 1) with
  | none =>
    have := clashTo_iff.clashTo_none _ g M (by omega)
    have := List.find?_eq_none.1 this _ hall
    rw [hM, bad_all hd] at this
    simp at this
  | some l =>
    have e : clashP t = (l, 0) := by
      rw [hM] at g
      simp [clashP, hv, hd, g]
    obtain ⟨k, hk, h1, h2⟩ := clashTo_iff _ g
    have hmem := List.mem_of_find?_eq_some h1
    have hlen : l.length = k := by simpa using listsD_len k [] l hmem
    obtain ⟨ha, hlt⟩ := listsD_asc k [] l List.Pairwise.nil (by simp) hmem
    have hbad := List.find?_some h1
    have hleast : ∀ ws, Asc ws → (∀ n ∈ ws, n < M) → badW t ws = true → l.length < ws.length ∨ ws.length = l.length ∧ earlierL (ofN ws) (ofN l) = false := by
      intro ws w1 w2 w3
      by_cases c1 : l.length < ws.length
      · exact .inl c1
      · refine .inr ?_
        have hw : ws ∈ listsD M ws.length [] := by simpa using listsD_all (M := M) ws.length [] ws (by simpa using w1) (by simpa using w2) rfl
        by_cases c2 : ws.length = l.length
        · refine ⟨c2, find_first (listsD_order k []) h1 (by rw [← hlen, ← c2]; exact hw) w3⟩
        · have := List.find?_eq_none.1 (h2 ws.length (by omega)) ws hw
          simp [w3] at this
    refine ⟨l, e, ?_, ha, by rw [← hM]; exact hlt, hbad, fun j hj => ?_, by rw [← hM]; exact hleast⟩
    · cases l with
      | nil => rw [bad_nil hv] at hbad; cases hbad
      | cons _ _ => simp
    · rw [Bool.eq_false_iff]
      intro hb
      have h3 := List.length_eraseIdx (l := l) (i := j)
      rw [if_pos hj] at h3
      rcases hleast _ (erase_asc ha j) (fun n hn => hlt n ((List.eraseIdx_sublist _ _).subset hn)) hb with h | ⟨h, _⟩ <;> omega
/-- A list of words, told by its numbers. -/
def upB (l : List Int) (lo hi : Int) : Bool := decide (∀ i, i < l.length → inR (l.getD i 0) lo hi = true ∧ (0 < i → l.getD (i - 1) 0 < l.getD i 0))
theorem up_words {l : List Int} {M : Nat} (h : upB l 0 ((M : Int) - 1) = true) : ∃ ws, l = ofN ws ∧ Asc ws ∧ ∀ n ∈ ws, n < M := by
  have h := of_decide_eq_true h
  refine ⟨l.map Int.toNat, ?_, ?_, ?_⟩
  · rw [ofN, List.map_map]
    refine (List.map_id l).symm.trans (List.map_congr_left fun x hx => ?_)
    obtain ⟨i, hi, rfl⟩ := List.getElem_of_mem hx
    have := inR_iff.1 (h i hi).1
    rw [getD_at hi] at this
    simp only [id, Function.comp]
    omega
  · unfold Asc
    rw [List.pairwise_iff_getElem]
    have step : ∀ d i, i + d + 1 < l.length → l.getD i 0 < l.getD (i + d + 1) 0 := by
      intro d
      induction d with
      | zero => intro i hi; exact (h (i + 1) hi).2 (by omega)
      | succ d ih => intro i hi; have := ih i (by omega); have := (h (i + (d + 1) + 1) hi).2 (by omega); simp only [Nat.add_sub_cancel] at this; rw [show i + (d + 1) = i + d + 1 by omega] at *; omega
    intro i j hi hj hij
    have hi : i < l.length := by simpa using hi
    have hj : j < l.length := by simpa using hj
    have a := step (j - i - 1) i (by omega)
    rw [show i + (j - i - 1) + 1 = j by omega, getD_at hi, getD_at hj] at a
    have b := inR_iff.1 (h i hi).1
    rw [getD_at hi] at b
    simp only [List.getElem_map]
    omega
  · intro n hn
    obtain ⟨x, hx, rfl⟩ := List.mem_map.1 hn
    obtain ⟨i, hi, rfl⟩ := List.getElem_of_mem hx
    have := inR_iff.1 (h i hi).1
    rw [getD_at hi] at this
    omega
theorem up_of {ws : List Nat} {M : Nat} (h : Asc ws) (hb : ∀ n ∈ ws, n < M) : upB (ofN ws) 0 ((M : Int) - 1) = true := by
  refine decide_eq_true fun i hi => ?_
  have hi' : i < ws.length := by simpa [ofN] using hi
  have e : ∀ j, j < ws.length → (ofN ws).getD j 0 = ((ws.getD j 0 : Nat) : Int) := fun j hj => by
    simp [ofN, List.getElem?_eq_getElem hj]
  refine ⟨inR_iff.2 ?_, fun h0 => ?_⟩
  · rw [e i hi', getD_at hi']
    have := hb _ (List.getElem_mem hi')
    omega
  · rw [e i hi', e (i - 1) (by omega), getD_at hi', getD_at (l := ws) (i := i - 1) (by omega)]
    have := List.pairwise_iff_getElem.1 h (i - 1) i (by omega) hi' (by omega)
    omega
end Go.Proofs.YtldcehhhndlhdaaGreatDoor
/- A town upside down. No function here. -/
namespace Go.Proofs.YtldcehhhndlhdaaGreatDoor
open Go.RowKit Go.Sort

def turnS (s : Snd) : Snd := ⟨s.well, 99 - s.high, 99 - s.low⟩
def turnP (s : Slp) : Slp := ⟨s.b, s.a, s.low, s.high⟩
def turnT (t : Twn) : Twn := ⟨t.wells, t.snd.map turnS, t.slp.map turnP⟩
theorem turn_valid {t : Twn} (h : valid t = true) : valid (turnT t) = true := by
  obtain ⟨h1, h2, h3⟩ := valid_iff'.1 h
  refine Vl.valid' ⟨h1.w0, h1.w6, fun s hs => ?_, fun s hs => ?_⟩ (by simpa [turnT] using h2) (by simpa [turnT] using h3)
  · obtain ⟨s', hs', rfl⟩ := List.mem_map.1 hs
    have := h1.snd s' hs'
    simp only [turnS, turnT]
    omega
  · obtain ⟨s', hs', rfl⟩ := List.mem_map.1 hs
    have := h1.slp s' hs'
    simp only [turnP, turnT]
    omega
theorem turn_turn (t : Twn) : turnT (turnT t) = t := by
  obtain ⟨w, a, b⟩ := t
  simp only [turnT, List.map_map]
  congr 1
  · refine (List.map_congr_left fun s _ => ?_).trans (List.map_id a)
    obtain ⟨x, y, z⟩ := s
    simp only [Function.comp, turnS, id]
    congr 1 <;> omega
  · refine (List.map_congr_left fun s _ => ?_).trans (List.map_id b)
    rfl
theorem turn_tr {t : Twn} {x : Nat → Int} (h : Tr t x) : Tr (turnT t) fun w => 99 - x w := by
  refine ⟨fun w hw => ?_, fun s hs => ?_, fun s hs => ?_⟩
  · have := h.own w hw
    show 0 ≤ 99 - x w ∧ 99 - x w ≤ 99
    omega
  · obtain ⟨s', hs', rfl⟩ := List.mem_map.1 hs
    have := h.snd s' hs'
    simp only [turnS]
    omega
  · obtain ⟨s', hs', rfl⟩ := List.mem_map.1 hs
    have := h.slp s' hs'
    simp only [turnP]
    omega
theorem turn_has {t : Twn} : (∃ x, Tr (turnT t) x) ↔ ∃ x, Tr t x :=
  ⟨fun ⟨x, hx⟩ => ⟨fun w => 99 - x w, by have := turn_tr hx; rwa [turn_turn] at this⟩, fun ⟨x, hx⟩ => ⟨_, turn_tr hx⟩⟩
theorem openE_iff {t : Twn} (hv : valid t = true) : openE t true = 0 ↔ ∃ x, Tr t x :=
  ⟨has_truth, fun ⟨_, hx⟩ => open_of_truth hv hx⟩
theorem turn_open {t : Twn} (hv : valid t = true) : openE (turnT t) true = openE t true := by
  have h := (openE_iff (turn_valid hv)).trans (turn_has.trans (openE_iff hv).symm)
  rcases openE_cases hv with h1 | h1
  · rw [h1]; exact h.2 h1
  · rcases openE_cases (turn_valid hv) with h2 | h2
    · have := h.1 h2; omega
    · rw [h1, h2]
theorem subL_map {α β : Type} (f : α → β) (is : Nat → Bool) : ∀ (i : Nat) (l : List α), subL is i (l.map f) = (subL is i l).map f
  | _, [] => rfl
  | i, x :: l => by
    rw [List.map_cons, subL, subL, subL_map f is (i + 1) l]
    split <;> rfl
theorem turn_sub (t : Twn) (is : Nat → Bool) : sub (turnT t) is = turnT (sub t is) := by
  simp [sub, turnT, subL_map]
theorem turn_bad {t : Twn} (hv : valid t = true) : badW (turnT t) = badW t := by
  funext l
  rw [Bool.eq_iff_iff, bad_iff hv, bad_iff (turn_valid hv), turn_sub, turn_open (sub_valid hv _)]
theorem turn_many (t : Twn) : (turnT t).snd.length = t.snd.length ∧ (turnT t).slp.length = t.slp.length := by simp [turnT]
theorem turn_clashTo {t : Twn} (hv : valid t = true) (M : Nat) : ∀ K, clashTo (turnT t) M K = clashTo t M K
  | 0 => rfl
  | K + 1 => by rw [clashTo, clashTo, turn_clashTo hv M K, turn_bad hv]
theorem turn_clash {t : Twn} (hv : valid t = true) : clashP (turnT t) = clashP t := by
  have hd : diagOk (closeM (baseM (turnT t))) = diagOk (closeM (baseM t)) := by
    have h := turn_open hv
    have hv2 := turn_valid hv
    unfold openE at h
    rw [if_pos hv, if_pos hv2, if_pos rfl, if_pos rfl] at h
    cases g1 : diagOk (closeM (baseM (turnT t))) <;> cases g2 : diagOk (closeM (baseM t)) <;> rw [g1, g2] at h <;> first | rfl | (simp at h)
  unfold clashP
  rw [turn_valid hv, hv, hd, (turn_many t).1, (turn_many t).2, turn_clashTo hv]
theorem turn_lvl {t : Twn} (h : openE t true = 0) {w : Nat} (hw : (w : Int) < t.wells) : (lvl (closeM (baseM (turnT t))) w).low = 99 - (lvl (closeM (baseM t)) w).high ∧ (lvl (closeM (baseM (turnT t))) w).high = 99 - (lvl (closeM (baseM t)) w).low := by
  have hv := (openE_zero' h).1
  have ho : openE (turnT t) true = 0 := by rw [turn_open hv]; exact h
  obtain ⟨⟨x, hx, ex⟩, ⟨y, hy, ey⟩⟩ := lvl_one h hw
  obtain ⟨⟨x', hx', ex'⟩, ⟨y', hy', ey'⟩⟩ := lvl_one ho (w := w) hw
  have a1 := each_level ho (turn_tr hx) (w := w) hw
  have a2 := each_level ho (turn_tr hy) (w := w) hw
  have b1 := turn_tr hx'
  have b2 := turn_tr hy'
  rw [turn_turn] at b1 b2
  have b1 := each_level h b1 hw
  have b2 := each_level h b2 hw
  omega
theorem turn_low {t : Twn} (h : openE t true = 0) : lowL (turnT t) = (highL t).map (fun x => 99 - x) ∧ highL (turnT t) = (lowL t).map (fun x => 99 - x) := by
  unfold lowL highL
  rw [List.map_map, List.map_map]
  have e : (turnT t).wells = t.wells := rfl
  rw [e]
  constructor
  · refine List.map_congr_left fun w hw => ?_
    exact (turn_lvl h (w := w) (by have := List.mem_range.1 hw; omega)).1
  · refine List.map_congr_left fun w hw => ?_
    exact (turn_lvl h (w := w) (by have := List.mem_range.1 hw; omega)).2
theorem map_sub_inj {a b : List Int} : a.map (fun x => 99 - x) = b.map (fun x => 99 - x) ↔ a = b :=
  List.map_inj_right fun x y h => by omega
theorem turn_same {t : Twn} (h : openE t true = 0) (n : Nat) : sameL (closeM (baseM (turnT t))) (closeM (baseM (sub (turnT t) (butW n)))) (List.range (turnT t).wells.toNat) = sameL (closeM (baseM t)) (closeM (baseM (sub t (butW n)))) (List.range t.wells.toNat) := by
  have ho : openE (sub t (butW n)) true = 0 := sub_one h _
  have e := same_lows (t := turnT t) (o := sub (turnT t) (butW n)) rfl
  have e' := same_lows (t := t) (o := sub t (butW n)) rfl
  refine e.trans (Eq.trans ?_ e'.symm)
  rw [turn_sub, (turn_low h).1, (turn_low h).2, (turn_low ho).1, (turn_low ho).2, Bool.eq_iff_iff]
  simp only [Bool.and_eq_true, decide_eq_true_eq, map_sub_inj]
  exact And.comm
theorem turn_idleTo {t : Twn} (h : openE t true = 0) (M : Nat) : idleTo (turnT t) M = idleTo t M := by
  have hv := (openE_zero' h).1
  have key : ∀ n, sameL (closeM (baseM (turnT t))) (closeM (baseM (sub (turnT t) (butW n)))) (List.range (turnT t).wells.toNat) = sameL (closeM (baseM t)) (closeM (baseM (sub t (butW n)))) (List.range t.wells.toNat) := fun n => turn_same h n
  have e : (List.range M).filter (fun n => sameL (closeM (baseM (turnT t))) (closeM (baseM (sub (turnT t) (butW n)))) (List.range (turnT t).wells.toNat)) = (List.range M).filter (fun n => sameL (closeM (baseM t)) (closeM (baseM (sub t (butW n)))) (List.range t.wells.toNat)) := List.filter_congr fun n _ => key n
  exact congrArg (fun l : List Nat => l.map fun (n : Nat) => (n : Int)) e
theorem turn_idle {t : Twn} (hv : valid t = true) : idleP (turnT t) = idleP t := by
  unfold idleP
  rw [turn_open hv, (turn_many t).1, (turn_many t).2]
  split
  · rename_i h
    rw [turn_idleTo h]
  · rfl
/-- A list that is turned number by number. -/
def mapTo {α : Type} (f : α → α) (k : Nat) (l : List α) : List α := (l.take k).map f ++ l.drop k
theorem mapTo_zero {α : Type} (f : α → α) (l : List α) : mapTo f 0 l = l := by simp [mapTo]
theorem mapTo_len {α : Type} (f : α → α) (k : Nat) (l : List α) : (mapTo f k l).length = l.length := by simp [mapTo]; omega
theorem mapTo_all {α : Type} (f : α → α) (l : List α) : mapTo f l.length l = l.map f := by simp [mapTo]
theorem mapTo_succ {α : Type} (f : α → α) {k : Nat} {l : List α} (h : k < l.length) : mapTo f (k + 1) l = (mapTo f k l).set k (f l[k]) := by
  unfold mapTo
  rw [List.take_succ_eq_append_getElem h, List.map_append, List.set_append_right _ _ (by simp; omega), List.drop_eq_getElem_cons h]
  rw [show k - ((l.take k).map f).length = 0 by simp; omega, List.set_cons_zero]
  simp only [List.map_cons, List.map_nil, List.append_assoc, List.cons_append, List.nil_append]
theorem sndCells_set : ∀ (l : List Snd) (m : Nat) (v : Snd), m < l.length → (((sndCells l).set (m * 3) (I v.well)).set (m * 3 + 1) (I v.low)).set (m * 3 + 2) (I v.high) = sndCells (l.set m v)
  | [], _, _, h => absurd h (by simp)
  | x :: l, 0, v, _ => by simp [sndCells]
  | x :: l, m + 1, v, h => by
    have ih := sndCells_set l m v (by simpa using h)
    have e : ∀ l : List Snd, ∀ x, sndCells (x :: l) = I x.well :: I x.low :: I x.high :: sndCells l := fun l x => by simp [sndCells]
    rw [List.set_cons_succ, e, e, ← ih, show (m + 1) * 3 = m * 3 + 3 by omega]
    rfl
theorem slpCells_set : ∀ (l : List Slp) (m : Nat) (v : Slp), m < l.length → ((((slpCells l).set (m * 4) (I v.a)).set (m * 4 + 1) (I v.b)).set (m * 4 + 2) (I v.low)).set (m * 4 + 3) (I v.high) = slpCells (l.set m v)
  | [], _, _, h => absurd h (by simp)
  | x :: l, 0, v, _ => by simp [slpCells]
  | x :: l, m + 1, v, h => by
    have ih := slpCells_set l m v (by simpa using h)
    have e : ∀ l : List Slp, ∀ x, slpCells (x :: l) = I x.a :: I x.b :: I x.low :: I x.high :: slpCells l := fun l x => by simp [slpCells]
    rw [List.set_cons_succ, e, e, ← ih, show (m + 1) * 4 = m * 4 + 4 by omega]
    rfl
theorem sndCells_all : ∀ (l : List Snd) (m : Nat), m < l.length → ∃ a b c : Int, (sndCells l)[m * 3]? = some (I a) ∧ (sndCells l)[m * 3 + 1]? = some (I b) ∧ (sndCells l)[m * 3 + 2]? = some (I c)
  | [], _, h => absurd h (by simp)
  | x :: l, 0, _ => ⟨x.well, x.low, x.high, by simp [sndCells], by simp [sndCells], by simp [sndCells]⟩
  | x :: l, m + 1, h => by
    obtain ⟨a, b, c, h1, h2, h3⟩ := sndCells_all l m (by simpa using h)
    have e : sndCells (x :: l) = I x.well :: I x.low :: I x.high :: sndCells l := by simp [sndCells]
    rw [e, show (m + 1) * 3 = m * 3 + 3 by omega]
    exact ⟨a, b, c, h1, h2, h3⟩
theorem slpCells_all : ∀ (l : List Slp) (m : Nat), m < l.length → ∃ a b c d : Int, (slpCells l)[m * 4]? = some (I a) ∧ (slpCells l)[m * 4 + 1]? = some (I b) ∧ (slpCells l)[m * 4 + 2]? = some (I c) ∧ (slpCells l)[m * 4 + 3]? = some (I d)
  | [], _, h => absurd h (by simp)
  | x :: l, 0, _ => ⟨x.a, x.b, x.low, x.high, by simp [slpCells], by simp [slpCells], by simp [slpCells], by simp [slpCells]⟩
  | x :: l, m + 1, h => by
    obtain ⟨a, b, c, d, h1, h2, h3, h4⟩ := slpCells_all l m (by simpa using h)
    have e : slpCells (x :: l) = I x.a :: I x.b :: I x.low :: I x.high :: slpCells l := by simp [slpCells]
    rw [e, show (m + 1) * 4 = m * 4 + 4 by omega]
    exact ⟨a, b, c, d, h1, h2, h3, h4⟩
end Go.Proofs.YtldcehhhndlhdaaGreatDoor
/- By which wells the highest level of a well is known. No function here. -/
namespace Go.Proofs.YtldcehhhndlhdaaGreatDoor
open Go.RowKit Go.Sort

def sumE (own : List Int) : Nat → List Nat → Int
  | _, [] => 0
  | p, w :: m => at_ own p w + sumE own w m
def Ext (own : List Int) (N : Nat) : List Nat → List Nat → Prop
  | _, [] => True
  | l, w :: m => w < N ∧ w ∉ l ∧ at_ own (lastW l) w ≠ 1048576 ∧ Ext own N (l ++ [w]) m
theorem lastW_snoc (l : List Nat) (w : Nat) : lastW (l ++ [w]) = w := by simp [lastW]
theorem ext_append {own : List Int} {N : Nat} : ∀ (m1 m2 l : List Nat), Ext own N l (m1 ++ m2) ↔ Ext own N l m1 ∧ Ext own N (l ++ m1) m2
  | [], m2, l => by simp [Ext]
  | w :: m1, m2, l => by
    rw [List.cons_append, Ext, Ext, ext_append m1 m2 (l ++ [w])]
    have e : l ++ [w] ++ m1 = l ++ w :: m1 := by simp
    rw [e]
    exact ⟨fun ⟨a, b, c, d, e⟩ => ⟨⟨a, b, c, d⟩, e⟩, fun ⟨⟨a, b, c, d⟩, e⟩ => ⟨a, b, c, d, e⟩⟩
theorem sumE_append {own : List Int} : ∀ (m1 m2 l : List Nat), sumE own (lastW l) (m1 ++ m2) = sumE own (lastW l) m1 + sumE own (lastW (l ++ m1)) m2
  | [], m2, l => by simp [sumE]
  | w :: m1, m2, l => by
    have ih := sumE_append (own := own) m1 m2 (l ++ [w])
    rw [lastW_snoc] at ih
    have e : l ++ [w] ++ m1 = l ++ w :: m1 := by simp
    rw [e] at ih
    rw [List.cons_append, sumE, sumE, ih]
    omega
theorem find_some {own bs : List Int} {N well : Nat} : ∀ (d : Nat) (l : List Nat) (sum : Int) (r : List Nat), findW own bs N well d l sum = some r → ∃ m, r = l ++ m ∧ m.length = d ∧ Ext own N l m ∧ lastW r = well ∧ sum + sumE own (lastW l) m = at_ bs 6 well
  | 0, l, sum, r, h => by
    rw [findW] at h
    split at h
    · rename_i hc
      obtain rfl : l = r := by simpa using h
      exact ⟨[], by simp, rfl, trivial, hc.1, by rw [sumE]; omega⟩
    · cases h
  | d + 1, l, sum, r, h => by
    rw [findW] at h
    obtain ⟨w, hw, h⟩ := List.exists_of_findSome?_eq_some h
    split at h
    · cases h
    · rename_i hc
      obtain ⟨m, h1, h2, h3, h4, h5⟩ := find_some d _ _ r h
      rw [lastW_snoc] at h5
      refine ⟨w :: m, by rw [h1]; simp, by rw [List.length_cons, h2], ⟨List.mem_range.1 hw, fun h => hc (.inl h), fun h => hc (.inr h), h3⟩, h4, by rw [sumE]; omega⟩
theorem find_none {own bs : List Int} {N well : Nat} : ∀ (m l : List Nat) (sum : Int), Ext own N l m → lastW (l ++ m) = well → sum + sumE own (lastW l) m = at_ bs 6 well → findW own bs N well m.length l sum ≠ none
  | [], l, sum, _, h1, h2 => by
    rw [List.append_nil] at h1
    rw [sumE] at h2
    rw [List.length_nil, findW, if_pos ⟨h1, by omega⟩]
    simp
  | w :: m, l, sum, h, h1, h2 => by
    obtain ⟨a, b, c, d⟩ := h
    rw [List.length_cons, findW]
    intro hn
    have := List.findSome?_eq_none_iff.1 hn w (List.mem_range.2 a)
    rw [if_neg (fun h => h.elim b c)] at this
    rw [sumE] at h2
    exact find_none m (l ++ [w]) _ d (by rw [← h1]; simp) (by rw [lastW_snoc]; omega) this
/-- A potential: no way is shorter than the difference. -/
theorem pot_le {own : List Int} {N : Nat} {X : Nat → Int} (hN : N ≤ 6) (ht : Top own) (hX : Sol own X) : ∀ (m l : List Nat), lastW l < 7 → Ext own N l m → X (lastW (l ++ m)) - X (lastW l) ≤ sumE own (lastW l) m
  | [], l, _, _ => by rw [List.append_nil, sumE]; omega
  | w :: m, l, hl, h => by
    obtain ⟨a, b, c, d⟩ := h
    have ih := pot_le hN ht hX m (l ++ [w]) (by rw [lastW_snoc]; omega) d
    rw [lastW_snoc] at ih
    have e : l ++ [w] ++ m = l ++ w :: m := by simp
    rw [e] at ih
    have h1 := hX (lastW l) w hl (by omega) (by have := ht.2 (lastW l) w hl (by omega); omega)
    rw [sumE]
    omega
theorem ext_last {own : List Int} {N : Nat} (hN : N ≤ 6) : ∀ {m : List Nat}, Ext own N [] m → lastW m < 7 := by
  intro m h
  rcases List.eq_nil_or_concat m with rfl | ⟨n, y, rfl⟩
  · decide
  · rw [List.concat_eq_append] at *
    have := ((ext_append n [y] []).1 h).2.1
    rw [lastW_snoc]
    omega
theorem ext_nodup {own : List Int} {N : Nat} : ∀ (m l : List Nat), l.Nodup → Ext own N l m → (l ++ m).Nodup
  | [], l, h, _ => by rw [List.append_nil]; exact h
  | w :: m, l, h, hm => by
    obtain ⟨a, b, c, d⟩ := hm
    have := ext_nodup m (l ++ [w]) (List.nodup_append.2 ⟨h, by simp, fun x hx y hy => by
      rw [List.mem_singleton.1 hy]
      rintro rfl
      exact b hx⟩) d
    simpa using this
theorem ext_lt {own : List Int} {N : Nat} : ∀ (m l : List Nat), Ext own N l m → ∀ x ∈ m, x < N
  | [], _, _, x, hx => by simp at hx
  | w :: m, l, h, x, hx => by
    obtain ⟨a, b, c, d⟩ := h
    rcases List.mem_cons.1 hx with rfl | hx
    · exact a
    · exact ext_lt m _ d x hx
theorem nodup_len : ∀ {N : Nat} {l : List Nat}, l.Nodup → (∀ x ∈ l, x < N) → l.length ≤ N
  | 0, [], _, _ => Nat.le_refl _
  | 0, x :: l, _, hb => absurd (hb x (by simp)) (by omega)
  | N + 1, l, h, hb => by
    have ih := nodup_len (N := N) (l := l.erase N) (h.erase N) fun x hx => by
      have h1 := (h.mem_erase_iff).1 hx
      have := hb x h1.2
      omega
    have := List.length_erase (a := N) (l := l)
    split at this <;> omega
/-- The ways whose numbers together are a potential: each beginning is one. -/
theorem tight_pre {own : List Int} {N : Nat} {X : Nat → Int} (hN : N ≤ 6) (ht : Top own) (hX : Sol own X) (h6 : X 6 = 0) {m1 m2 : List Nat} (h : Ext own N [] (m1 ++ m2)) (hs : sumE own 6 (m1 ++ m2) = X (lastW (m1 ++ m2))) : sumE own 6 m1 = X (lastW m1) := by
  obtain ⟨e1, e2⟩ := (ext_append m1 m2 []).1 h
  have a := pot_le hN ht hX m1 [] (by decide) e1
  have b := pot_le hN ht hX m2 m1 (ext_last hN e1) (by simpa using e2)
  have c := sumE_append (own := own) m1 m2 []
  rw [show lastW [] = 6 from rfl] at a c
  rw [List.nil_append] at a
  rw [List.nil_append] at c
  rw [h6] at a
  omega
/-- What is no way of a valid town. -/
theorem high_pot {t : Twn} (h : openE t true = 0) : Tr t (fun w => at_ (closeM (baseM t)) 6 w) := by
  have h1 := (isTrB_iff.1 (ends_true h).2).2
  refine Tr.congr (valid_vl (openE_zero' h).1) (fun w hw => ?_) h1
  rw [highL_get hw]
  simp only [lvl]
theorem tight_way {t : Twn} (h : openE t true = 0) {v : Nat} (hv : (v : Int) < t.wells) : ∃ m, Ext (baseM t) t.wells.toNat [] m ∧ lastW m = v ∧ sumE (baseM t) 6 m = at_ (closeM (baseM t)) 6 v := by
  have hvl := valid_vl (openE_zero' h).1
  have h0 := hvl.w0
  have hw6 := hvl.w6
  have hH := high_pot h
  have ht := baseM_top hvl
  obtain ⟨X, hXd⟩ : ∃ X : Nat → Int, X = lift (fun w => at_ (closeM (baseM t)) 6 w) := ⟨_, rfl⟩
  have hX6 : X 6 = 0 := by rw [hXd]; rfl
  have hXw : ∀ w, w ≠ 6 → X w = at_ (closeM (baseM t)) 6 w := fun w hw => by rw [hXd]; exact if_neg hw
  have hX : Sol (baseM t) X := (baseM_sol hvl).2 (Tr.congr hvl (fun w hw => by
    have := hXw w (by omega)
    rw [hX6, this]; omega) hH)
  by_cases hS : ∃ m, Ext (baseM t) t.wells.toNat [] m ∧ lastW m = v ∧ sumE (baseM t) 6 m = X v
  · obtain ⟨m, h1, h2, h3⟩ := hS
    exact ⟨m, h1, h2, by rw [h3, hXw v (by omega)]⟩
  · exfalso
    have hin : ∀ j, (∃ m, Ext (baseM t) t.wells.toNat [] m ∧ lastW m = j ∧ sumE (baseM t) 6 m = X j) ∨ ¬ (∃ m, Ext (baseM t) t.wells.toNat [] m ∧ lastW m = j ∧ sumE (baseM t) 6 m = X j) := fun j => Classical.em _
    let Y : Nat → Int := fun j => @ite _ (j = 6 ∨ ∃ m, Ext (baseM t) t.wells.toNat [] m ∧ lastW m = j ∧ sumE (baseM t) 6 m = X j) (Classical.propDecidable _) (X j) (X j + 1)
    have hYin : ∀ j, (j = 6 ∨ ∃ m, Ext (baseM t) t.wells.toNat [] m ∧ lastW m = j ∧ sumE (baseM t) 6 m = X j) → Y j = X j := fun j hj => if_pos hj
    have hYout : ∀ j, ¬ (j = 6 ∨ ∃ m, Ext (baseM t) t.wells.toNat [] m ∧ lastW m = j ∧ sumE (baseM t) 6 m = X j) → Y j = X j + 1 := fun j hj => if_neg hj
    have hYle : ∀ j, X j ≤ Y j ∧ Y j ≤ X j + 1 := fun j => by
      by_cases hj : (j = 6 ∨ ∃ m, Ext (baseM t) t.wells.toNat [] m ∧ lastW m = j ∧ sumE (baseM t) 6 m = X j)
      · rw [hYin j hj]; omega
      · rw [hYout j hj]; omega
    have hY : Sol (baseM t) Y := by
      intro i j hi hj hfin
      have hXe := hX i j hi hj hfin
      by_cases hij : i = j
      · subst hij; omega
      by_cases hjs : (j = 6 ∨ ∃ m, Ext (baseM t) t.wells.toNat [] m ∧ lastW m = j ∧ sumE (baseM t) 6 m = X j)
      · have := hYin j hjs; have := hYle i; omega
      · have hYj := hYout j hjs
        by_cases his : (i = 6 ∨ ∃ m, Ext (baseM t) t.wells.toNat [] m ∧ lastW m = i ∧ sumE (baseM t) 6 m = X i)
        · have hYi := hYin i his
          by_cases hlt : X j + 1 - X i ≤ at_ (baseM t) i j
          · omega
          · exfalso
            have hact : act t.wells j := by
              by_cases hact : act t.wells i ∧ act t.wells j
              · exact hact.2
              · have := baseM_iso hvl i j hi hj hij hact; omega
            have hj6 : j ≠ 6 := fun e => hjs (.inl e)
            have hjN : j < t.wells.toNat := by rcases hact with h | h <;> omega
            -- a way to i
            obtain ⟨m, hm1, hm2, hm3⟩ : ∃ m, Ext (baseM t) t.wells.toNat [] m ∧ lastW m = i ∧ sumE (baseM t) 6 m = X i := by
              rcases his with rfl | his
              · exact ⟨[], trivial, rfl, by rw [sumE, hX6]⟩
              · exact his
            by_cases hjm : j ∈ m
            · obtain ⟨p, q, rfl⟩ := List.append_of_mem hjm
              have e : p ++ j :: q = (p ++ [j]) ++ q := by simp
              rw [e] at hm1 hm2 hm3
              have ht1 := tight_pre (by omega) ht hX hX6 hm1 (by rw [hm2]; exact hm3)
              rw [lastW_snoc] at ht1
              exact hjs (.inr ⟨p ++ [j], ((ext_append _ _ _).1 hm1).1, lastW_snoc _ _, ht1⟩)
            · refine hjs (.inr ⟨m ++ [j], (ext_append _ _ _).2 ⟨hm1, hjN, by simpa using hjm, by rw [List.nil_append, hm2]; omega, trivial⟩, lastW_snoc _ _, ?_⟩)
              have hc := sumE_append (own := baseM t) m [j] []
              rw [show lastW [] = 6 from rfl, List.nil_append, hm2, hm3, sumE, sumE] at hc
              omega
        · have hYi := hYout i his; omega
    have hTr := (baseM_sol hvl).1 hY
    have hle := each_level h hTr (w := v) hv
    have e6 : Y 6 = X 6 := hYin 6 (.inl rfl)
    have ev : Y v = X v + 1 := hYout v (fun hc => hc.elim (fun e => by omega) hS)
    have hx := hXw v (by omega)
    have hhi : (lvl (closeM (baseM t)) v).high = at_ (closeM (baseM t)) 6 v := by simp only [lvl]
    rw [e6, ev, hX6, hx, hhi] at hle
    omega
/-- The list of Follows: all slopes are there. -/
def finE (own : List Int) : Nat → List Nat → Bool
  | _, [] => true
  | p, w :: m => decide (at_ own p w ≠ 1048576) && finE own w m
def followsP (own : List Int) (l : List Nat) : Int × Bool := if finE own 6 l = true then (sumE own 6 l, true) else (0, false)
theorem ext_fin {own : List Int} {N : Nat} : ∀ (m l : List Nat), Ext own N l m → finE own (lastW l) m = true
  | [], _, _ => rfl
  | w :: m, l, h => by
    obtain ⟨a, b, c, d⟩ := h
    have := ext_fin m (l ++ [w]) d
    rw [lastW_snoc] at this
    rw [finE, this, Bool.and_true]
    exact decide_eq_true c
theorem whyTo_iff {own bs : List Int} {N well K : Nat} {l : List Nat} (h : whyTo own bs N well K = some l) : ∃ k, k < K ∧ findW own bs N well (k + 1) [] 0 = some l := by
  obtain ⟨k, hk, h⟩ := List.exists_of_findSome?_eq_some h
  exact ⟨k, List.mem_range.1 hk, h⟩
structure WhyIs (t : Twn) (v : Nat) (l : List Nat) : Prop where
  ne : 0 < l.length
  le : (l.length : Int) ≤ t.wells
  lt : ∀ x ∈ l, (x : Int) < t.wells
  nodup : l.Nodup
  last : lastW l = v
  pre : ∀ k, k < l.length → followsP (baseM t) (l.take (k + 1)) = (at_ (closeM (baseM t)) 6 (l.getD k 0), true)
theorem why_said {t : Twn} (h : openE t true = 0) {v : Int} (hw : isWell t.wells v = true) : ∃ l, whyP t v = (l, 0) ∧ WhyIs t v.toNat l := by
  have hvl := valid_vl (openE_zero' h).1
  have h0 := hvl.w0
  have hw6 := hvl.w6
  have hv := isWell_iff.1 hw
  obtain ⟨m, hm1, hm2, hm3⟩ := tight_way h (v := v.toNat) (by omega)
  have hml := nodup_len (by simpa using ext_nodup m [] List.nodup_nil hm1) (ext_lt m [] hm1)
  have hm0 : m ≠ [] := by rintro rfl; rw [show lastW [] = 6 from rfl] at hm2; omega
  have hmp := List.length_pos_iff.2 hm0
  obtain ⟨l, hl⟩ : ∃ l, whyTo (baseM t) (closeM (baseM t)) t.wells.toNat v.toNat t.wells.toNat = some l := by
    cases g : whyTo (baseM t) (closeM (baseM t)) t.wells.toNat v.toNat t.wells.toNat with
    | some l => exact ⟨l, rfl⟩
    | none =>
      exfalso
      have := List.findSome?_eq_none_iff.1 g (m.length - 1) (List.mem_range.2 (by omega))
      rw [show m.length - 1 + 1 = m.length by omega] at this
      exact find_none m [] 0 hm1 (by simpa using hm2) (by rw [show lastW [] = 6 from rfl, hm3]; omega) this
  obtain ⟨k, hk, hf⟩ := whyTo_iff hl
  obtain ⟨m', e1, e2, e3, e4, e5⟩ := find_some _ _ _ _ hf
  rw [List.nil_append] at e1
  subst e1
  rw [show lastW [] = 6 from rfl] at e5
  have hnd := ext_nodup l [] List.nodup_nil e3
  rw [List.nil_append] at hnd
  have hlt := ext_lt l [] e3
  have ht := baseM_top hvl
  have hH := high_pot h
  obtain ⟨X, hXd⟩ : ∃ X : Nat → Int, X = lift (fun w => at_ (closeM (baseM t)) 6 w) := ⟨_, rfl⟩
  have hX6 : X 6 = 0 := by rw [hXd]; rfl
  have hXw : ∀ w, w ≠ 6 → X w = at_ (closeM (baseM t)) 6 w := fun w hw => by rw [hXd]; exact if_neg hw
  have hX : Sol (baseM t) X := (baseM_sol hvl).2 (Tr.congr hvl (fun w hw => by
    have := hXw w (by omega)
    rw [hX6, this]; omega) hH)
  refine ⟨l, ?_, by omega, by omega, fun x hx => by have := hlt x hx; omega, hnd, e4, fun j hj => ?_⟩
  · unfold whyP
    rw [hw, h, if_pos rfl, hl]
  · have hsp := (List.take_append_drop (j + 1) l)
    rw [← hsp] at e3
    have h1 := ((ext_append _ _ _).1 e3).1
    have hsum : sumE (baseM t) 6 (l.take (j + 1) ++ l.drop (j + 1)) = X (lastW (l.take (j + 1) ++ l.drop (j + 1))) := by
      rw [hsp, e4, hXw v.toNat (by omega)]
      omega
    have h2 := tight_pre (by omega) ht hX hX6 e3 hsum
    have hlast : lastW (l.take (j + 1)) = l.getD j 0 := by
      rw [List.take_succ_eq_append_getElem hj, lastW_snoc, getD_at hj]
    have hlj : l.getD j 0 < t.wells.toNat := by rw [getD_at hj]; exact hlt _ (List.getElem_mem hj)
    rw [hlast, hXw _ (by omega)] at h2
    unfold followsP
    have hf := ext_fin _ [] h1
    rw [show lastW [] = 6 from rfl] at hf
    rw [if_pos hf, h2]
theorem why_three {t : Twn} (h : openE t true = 3) {v : Int} (hw : isWell t.wells v = true) : whyP t v = ([], 3) := by
  unfold whyP
  rw [hw, h, if_neg (by omega)]
end Go.Proofs.YtldcehhhndlhdaaGreatDoor
/- A town of buckets, seen as the theory sees it. -/
namespace Go.Proofs.YtldcehhhndlhdaaGreatDoor
open Go.RowKit Go.Sort Go.Shelf

theorem earlier_eq : ∀ k l : List Int, Bk.earlierL k l = earlierL k l
  | [], [] => rfl
  | [], _ :: _ => rfl
  | _ :: _, [] => rfl
  | x :: k, y :: l => by
    show (if x = y then Bk.earlierL k l else decide (x < y)) = (if x = y then earlierL k l else decide (x < y))
    rw [earlier_eq k l]
def BTown.bt (t : BTown) : Bk.BT := ⟨t.hs.length, t.ws.length, t.ys.length, fun h => t.hs.getD h 0, fun w => t.ws.getD w 0, fun i => (spAt t.ys i).low.toNat, fun i => (spAt t.ys i).high.toNat⟩
theorem BTown.bt_ok {t : BTown} (h : bVal t = true) : Bk.BOk t.bt := by
  refine ⟨fun i hi => ?_, fun i hi => ?_⟩
  · obtain ⟨a, c, e, ha, -⟩ := okY_nat h hi
    show (spAt t.ys i).low.toNat < t.hs.length
    rw [spAt_len _ _ hi, e]
    simpa using ha
  · obtain ⟨a, c, e, -, hc⟩ := okY_nat h hi
    show (spAt t.ys i).high.toNat < t.ws.length
    rw [spAt_len _ _ hi, e]
    simpa using hc
theorem BTown.bt_sm {t : BTown} (h : bVal t = true) : Bk.BSm t.bt := by
  have hs := bVal_spec h
  refine ⟨BTown.bt_ok h, hs.1, hs.2.1, fun i hi => ?_, fun i hi => ?_⟩
  · have hi' : i < t.hs.length := hi
    have := hs.2.2.1 _ (List.getElem_mem hi')
    show 0 ≤ t.hs.getD i 0 ∧ t.hs.getD i 0 ≤ 9
    rw [List.getD_eq_getElem?_getD, List.getElem?_eq_getElem hi', Option.getD_some]
    exact this
  · have hi' : i < t.ws.length := hi
    have := hs.2.2.2.1 _ (List.getElem_mem hi')
    show 0 ≤ t.ws.getD i 0
    rw [List.getD_eq_getElem?_getD, List.getElem?_eq_getElem hi', Option.getD_some]
    exact this.1
end Go.Proofs.YtldcehhhndlhdaaGreatDoor
/- What is left behind some ways of a division. -/
namespace Go.Proofs.YtldcehhhndlhdaaGreatDoor
open Go.RowKit Go.Sort Go.Shelf

def leftTo (t : BTown) (d : Nat → Int) : Nat → List Int × List Int
  | 0 => (t.hs, t.ws)
  | k + 1 => ((leftTo t d k).1.set (t.bt.hh k) ((leftTo t d k).1.getD (t.bt.hh k) 0 - d k), (leftTo t d k).2.set (t.bt.ww k) ((leftTo t d k).2.getD (t.bt.ww k) 0 - d k))
theorem getD_set_if (l : List Int) (i j : Nat) (x : Int) (hj : j < l.length) : (l.set i x).getD j 0 = if i = j then x else l.getD j 0 := by
  rw [List.getD_eq_getElem?_getD, List.getElem?_set, List.getD_eq_getElem?_getD]
  by_cases e : i = j
  · subst e
    rw [if_pos rfl, if_pos hj, if_pos rfl]
    rfl
  · rw [if_neg e, if_neg e]
theorem leftTo_spec (t : BTown) (d : Nat → Int) : ∀ k, (leftTo t d k).1.length = t.hs.length ∧ (leftTo t d k).2.length = t.ws.length ∧
    (∀ h, h < t.hs.length → (leftTo t d k).1.getD h 0 = t.hs.getD h 0 - Bk.sumR k fun i => if t.bt.hh i = h then d i else 0) ∧
    ∀ w, w < t.ws.length → (leftTo t d k).2.getD w 0 = t.ws.getD w 0 - Bk.sumR k fun i => if t.bt.ww i = w then d i else 0
  | 0 => ⟨rfl, rfl, fun h _ => by show _ = _ - 0; rw [Int.sub_zero]; rfl, fun w _ => by show _ = _ - 0; rw [Int.sub_zero]; rfl⟩
  | k + 1 => by
    obtain ⟨h1, h2, h3, h4⟩ := leftTo_spec t d k
    refine ⟨by simp [leftTo, h1], by simp [leftTo, h2], fun h hh => ?_, fun w hw => ?_⟩
    · show ((leftTo t d k).1.set (t.bt.hh k) ((leftTo t d k).1.getD (t.bt.hh k) 0 - d k)).getD h 0 = t.hs.getD h 0 - (Bk.sumR k (fun i => if t.bt.hh i = h then d i else 0) + if t.bt.hh k = h then d k else 0)
      rw [getD_set_if _ _ _ _ (by omega)]
      by_cases e : t.bt.hh k = h
      · rw [if_pos e, if_pos e, e, h3 h hh]; omega
      · rw [if_neg e, if_neg e, h3 h hh]; omega
    · show ((leftTo t d k).2.set (t.bt.ww k) ((leftTo t d k).2.getD (t.bt.ww k) 0 - d k)).getD w 0 = t.ws.getD w 0 - (Bk.sumR k (fun i => if t.bt.ww i = w then d i else 0) + if t.bt.ww k = w then d k else 0)
      rw [getD_set_if _ _ _ _ (by omega)]
      by_cases e : t.bt.ww k = w
      · rw [if_pos e, if_pos e, e, h4 w hw]; omega
      · rw [if_neg e, if_neg e, h4 w hw]; omega
/-- Behind all ways: what the theory calls the lacks, and what the wells have left. -/
theorem leftTo_end (t : BTown) (d : Nat → Int) : (∀ h, h < t.hs.length → (leftTo t d t.ys.length).1.getD h 0 = Bk.lackH t.bt d h) ∧ ∀ w, w < t.ws.length → (leftTo t d t.ys.length).2.getD w 0 = Bk.hasW t.bt d w :=
  ⟨(leftTo_spec t d t.ys.length).2.2.1, (leftTo_spec t d t.ys.length).2.2.2⟩
end Go.Proofs.YtldcehhhndlhdaaGreatDoor
