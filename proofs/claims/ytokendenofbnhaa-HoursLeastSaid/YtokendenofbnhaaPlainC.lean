/- The reference's own lists: all lists of hours, the new rosters of them. No program here. -/
import Derived.Test.YtokendenofbnhaaPlainB
namespace Go.Proofs.Ytokendenofbnhaa
def allFrom : List Str → List Int → List (List Int)
  | [], p => [p]
  | s :: ss, p => (hrs s).flatMap fun h => allFrom ss (p ++ [h])
/-- .. as far as a loop over the hours of the next street has come. -/
def allTo (ss : List Str) (p : List Int) (s : Str) (k : Nat) : List (List Int) := ((List.range k).map fun j : Nat => s.frm + (j : Int)).flatMap fun h => allFrom ss (p ++ [h])
theorem allTo_zero (ss : List Str) (p : List Int) (s : Str) : allTo ss p s 0 = [] := rfl
theorem allTo_succ (ss : List Str) (p : List Int) (s : Str) (k : Nat) : allTo ss p s (k + 1) = allTo ss p s k ++ allFrom ss (p ++ [s.frm + (k : Int)]) := by
  unfold allTo
  rw [List.range_succ, List.map_append, List.flatMap_append]
  simp
theorem allTo_all (ss : List Str) (p : List Int) (s : Str) : allTo ss p s (s.to - s.frm + 1).toNat = allFrom (s :: ss) p := rfl
theorem allTo_len {ss : List Str} {p : List Int} {s : Str} {N : Nat} (h : ∀ p, (allFrom ss p).length ≤ N) : ∀ k, (allTo ss p s k).length ≤ k * N
  | 0 => by simp [allTo]
  | k + 1 => by
    have a := allTo_len (p := p) (s := s) h k
    have b := h (p ++ [s.frm + (k : Int)])
    rw [allTo_succ, List.length_append, Nat.succ_mul]
    omega
theorem allFrom_len : ∀ (ss : List Str), (∀ s ∈ ss, StrOk s) → ∀ p, (allFrom ss p).length ≤ 8 ^ ss.length
  | [], _, _ => by simp [allFrom]
  | s :: ss, hs, p => by
    have h := allTo_len (p := p) (s := s) (allFrom_len ss (fun t ht => hs t (by simp [ht]))) (s.to - s.frm + 1).toNat
    rw [allTo_all] at h
    have a := hs s (by simp)
    have b : (s.to - s.frm + 1).toNat ≤ 8 := by have := a.frm0; have := a.to1; omega
    have c := Nat.mul_le_mul_right (8 ^ ss.length) b
    rw [List.length_cons, Nat.pow_succ, Nat.mul_comm]
    omega
theorem pow8 {n : Nat} (h : n ≤ 6) : 8 ^ n ≤ 262144 := by
  have := Nat.pow_le_pow_right (show 0 < 8 by omega) h
  have e : 8 ^ 6 = 262144 := rfl
  omega
theorem allFrom_map : ∀ (ss : List Str) (p : List Int), allFrom ss p = (allFrom ss []).map (p ++ ·)
  | [], p => by simp [allFrom]
  | s :: ss, p => by
    simp only [allFrom]
    rw [List.map_flatMap]
    congr 1
    funext h
    rw [allFrom_map ss (p ++ [h]), allFrom_map ss ([] ++ [h]), List.map_map]
    congr 1
    funext l
    simp
theorem flatMap_cong {α β : Type} {f g : α → List β} : ∀ {l : List α}, (∀ x ∈ l, f x = g x) → l.flatMap f = l.flatMap g
  | [], _ => rfl
  | x :: l, h => by
    rw [List.flatMap_cons, List.flatMap_cons, h x (by simp), flatMap_cong fun y hy => h y (by simp [hy])]
theorem allL_eq {w : Str → Int → Int} : ∀ (ss : List Str) (left : List Int), allL w ss left = (allFrom ss []).filter fun l => goodL ss left l && mayL w ss l
  | [], left => by
    exact (List.filter_eq_self (l := [[]]) (p := fun l => goodL [] left l && mayL w [] l)).2 (fun l hl => by rw [List.mem_singleton.1 hl]; rfl) |>.symm
  | s :: ss, left => by
    simp only [allL, allFrom]
    rw [List.filter_flatMap]
    refine flatMap_cong fun h hh => ?_
    have hi := mem_hrs.1 hh
    rw [allFrom_map ss ([] ++ [h]), List.nil_append, List.filter_map]
    by_cases hc : w s h < 0 ∨ at_ left h = 0
    · rw [if_pos hc]
      symm
      rw [List.map_eq_nil_iff, List.filter_eq_nil_iff]
      intro l _
      simp only [Function.comp, List.singleton_append, goodL, mayL, Bool.and_eq_true, decide_eq_true_eq, bne_iff_ne]
      rintro ⟨⟨⟨-, a⟩, -⟩, b, -⟩
      rcases hc with hc | hc
      · omega
      · exact a hc
    · rw [if_neg hc, allL_eq ss (dec left h)]
      have hc1 : ¬ w s h < 0 := fun e => hc (.inl e)
      have hc2 : at_ left h ≠ 0 := fun e => hc (.inr e)
      have e : List.filter (fun l => goodL ss (dec left h) l && mayL w ss l) (allFrom ss []) = List.filter ((fun l => goodL (s :: ss) left l && mayL w (s :: ss) l) ∘ fun x => [h] ++ x) (allFrom ss []) := by
        refine List.filter_congr fun l _ => ?_
        simp only [Function.comp, List.singleton_append, goodL, mayL]
        rw [inR_iff.2 hi, show (at_ left h != 0) = true by simpa using hc2, show decide (0 ≤ w s h) = true by simpa using hc1]
        simp
      rw [e]
      rfl
/-- All new rosters, the first one first. -/
def newsL (r : Ros) : List (List Int) := (allFrom r.strs []).filter (newB r)
theorem news_allL {w : Str → Int → Int} {r : Ros} : allL w r.strs (pad r.room) = (newsL r).filter (mayL w r.strs) := by
  unfold newsL
  rw [allL_eq, List.filter_filter]
  refine List.filter_congr fun l _ => ?_
  rw [← newB_pad, Bool.and_comm]
theorem mem_news {r : Ros} {l : List Int} : l ∈ newsL r ↔ newB r l = true := by
  have h : ∀ w : Str → Int → Int, allL w r.strs (pad r.room) = (newsL r).filter (mayL w r.strs) := fun w => news_allL
  constructor
  · intro hl
    exact (List.mem_filter.1 hl).2
  · intro hl
    have hm : l ∈ allL (fun _ _ => 0) r.strs (pad r.room) := mem_allL.2 ⟨by rw [← newB_pad]; exact hl, by
      have : ∀ (ss : List Str) (l : List Int), mayL (fun _ _ => 0) ss l = true := by
        intro ss
        induction ss with
        | nil => intro l; cases l <;> rfl
        | cons s ss ih => intro l; cases l with
          | nil => rfl
          | cons x l => simp [mayL, ih l]
      exact this _ _⟩
    rw [h] at hm
    exact (List.mem_filter.1 hm).1
theorem firstMin_congr {α : Type} {f g : α → Int} : ∀ {l : List α}, (∀ x ∈ l, f x = g x) → firstMin f l = firstMin g l
  | [], _ => rfl
  | x :: l, h => by
    have ih := firstMin_congr (l := l) fun y hy => h y (by simp [hy])
    simp only [firstMin]
    rw [ih]
    cases hm : firstMin g l with
    | none => rfl
    | some y =>
      simp only
      rw [h x (by simp), h y (List.mem_cons_of_mem _ (firstMin_mem hm))]
theorem roster_min {r : Ros} (h : ROk r) : firstMin (costL r.strs) (newsL r) = if someR r = true then some (rosterP stepsI r.strs (pad r.room)) else none := by
  have hs := best_stands stepsI r.strs (pad r.room) (fromOk_of h)
  have hm : allL stepsI r.strs (pad r.room) = newsL r := by
    rw [news_allL]
    exact List.filter_eq_self.2 fun l _ => mayL_steps h.strs l
  rw [hm] at hs
  have e : sumW stepsI r.strs = costL r.strs := rfl
  rw [e] at hs
  cases hf : firstMin (costL r.strs) (newsL r) with
  | none =>
    rw [hf] at hs
    have : someR r = false := by
      unfold someR bestR
      simpa using hs
    rw [this]
    rfl
  | some l =>
    rw [hf] at hs
    obtain ⟨a, b, -⟩ := hs
    have : someR r = true := by
      unfold someR bestR
      simpa using a
    rw [if_pos this, b]
theorem fair_min {r : Ros} (h : ROk r) (hs : someR r = true) : firstMin (costL r.strs) ((newsL r).filter (mayL (upToI (farN r : Int)) r.strs)) = some (rosterP (upToI (farN r : Int)) r.strs (pad r.room)) := by
  have hb := best_stands (upToI (farN r : Int)) r.strs (pad r.room) (fromOk_of h)
  rw [news_allL] at hb
  have hc : ∀ (ss : List Str) (l : List Int), (∀ s ∈ ss, StrOk s) → mayL (upToI (farN r : Int)) ss l = true → sumW (upToI (farN r : Int)) ss l = costL ss l := by
    intro ss
    induction ss with
    | nil => intro l _ _; cases l <;> rfl
    | cons s ss ih =>
      intro l hok hm
      cases l with
      | nil => rfl
      | cons x l =>
        simp only [mayL, Bool.and_eq_true, decide_eq_true_eq] at hm
        have e := ih l (fun t ht => hok t (by simp [ht])) hm.2
        have e2 : upToI (farN r : Int) s x = stepsI s x := by
          unfold upToI at hm ⊢
          split
          · rename_i hgt
            have := hm.1
            rw [if_pos hgt] at this
            omega
          · rfl
        unfold costL at e ⊢
        simp only [sumW]
        rw [e, e2]
  rw [firstMin_congr (g := costL r.strs) (fun l hl => hc _ _ h.strs (List.mem_filter.1 hl).2)] at hb
  obtain ⟨⟨m, hm, hn⟩, -⟩ := far_real h hs
  cases hf : firstMin (costL r.strs) ((newsL r).filter (mayL (upToI (farN r : Int)) r.strs)) with
  | none =>
    have := firstMin_none.1 hf
    have hmem : m ∈ (newsL r).filter (mayL (upToI (farN r : Int)) r.strs) := List.mem_filter.2 ⟨mem_news.2 hm, (mayL_near h.strs).2 hn⟩
    rw [this] at hmem
    simp at hmem
  | some l =>
    rw [hf] at hb
    obtain ⟨-, b, -⟩ := hb
    rw [b]
theorem news_nil {r : Ros} (h : ROk r) : newsL r = [] ↔ someR r = false := by
  have := roster_min h
  rw [← firstMin_none (f := costL r.strs), this]
  cases someR r <;> simp
end Go.Proofs.Ytokendenofbnhaa
