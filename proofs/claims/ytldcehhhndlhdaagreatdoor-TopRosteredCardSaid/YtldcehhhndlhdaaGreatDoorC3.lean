/- The plain words of layer 8: rosters, what is valid, what a new roster is, the cheapest ones. No program here. -/

namespace Go.Proofs.YtldcehhhndlhdaaGreatDoor.Hr
/-- A street of a roster. -/
structure Str where
  has : Int
  frm : Int
  to : Int
  cost : Int
  deriving DecidableEq, Inhabited
/-- A roster: the room of each hour, and the streets. -/
structure Ros where
  room : List Int
  strs : List Str
  deriving DecidableEq, Inhabited
def inR (n lo hi : Int) : Bool := decide (lo ≤ n) && decide (n ≤ hi)
theorem inR_iff {n lo hi : Int} : inR n lo hi = true ↔ lo ≤ n ∧ n ≤ hi := by simp [inR]
theorem inR_not {n lo hi : Int} : inR n lo hi = false ↔ ¬ (lo ≤ n ∧ n ≤ hi) := by rw [← inR_iff]; simp
def isHour (r : Ros) (n : Int) : Bool := inR n 0 (r.room.length - 1)
def isStreet (r : Ros) (n : Int) : Bool := inR n 0 (r.strs.length - 1)
def badRoom (n : Int) : Bool := !inR n 0 6
def badStr (r : Ros) (s : Str) : Bool := (s.has != -1 && !isHour r s.has) || !isHour r s.frm || !isHour r s.to || decide (s.to < s.frm) || !inR s.cost 0 9
def valid (r : Ros) : Bool := decide (r.room.length ≤ 8) && !r.room.any badRoom && decide (r.strs.length ≤ 6) && !r.strs.any (badStr r)
def chk (r : Ros) : Int := if valid r then 0 else 80
def askE (r : Ros) (is : Bool) : Int := if valid r then (if is then 0 else 1) else 80
def moveI (s : Str) (h : Int) : Int := if s.has = -1 then 0 else max (s.has - h) (h - s.has)
def stepsI (s : Str) (h : Int) : Int := moveI s h * s.cost
def onceI (s : Str) (h : Int) : Int := min 1 (moveI s h)
def upToI (far : Int) (s : Str) (h : Int) : Int := if moveI s h > far then -1 else stepsI s h
theorem moveI_nonneg (s : Str) (h : Int) : 0 ≤ moveI s h := by unfold moveI; split <;> omega

/-! What is left of the room. -/
def at_ (l : List Int) (h : Int) : Int := l.getD h.toNat 0
def dec (l : List Int) (h : Int) : List Int := l.set h.toNat (at_ l h - 1)
theorem dec_length (l : List Int) (h : Int) : (dec l h).length = l.length := by simp [dec]
theorem at_set (l : List Int) (i : Nat) (x : Int) (h : Int) : at_ (l.set i x) h = if h.toNat = i ∧ i < l.length then x else at_ l h := by
  simp only [at_, List.getD_eq_getElem?_getD, List.getElem?_set]
  by_cases e : i = h.toNat
  · subst e
    by_cases hl : h.toNat < l.length
    · simp [hl]
    · simp [hl]
  · rw [if_neg e, if_neg (by omega)]
/-- A list of hours is a new roster for these streets, with so much room left. -/
def goodL : List Str → List Int → List Int → Bool
  | [], _, [] => true
  | s :: ss, left, h :: hs => inR h s.frm s.to && at_ left h != 0 && goodL ss (dec left h) hs
  | _, _, _ => false
def newB (r : Ros) (l : List Int) : Bool := goodL r.strs r.room l
theorem goodL_length : ∀ (ss : List Str) (left l : List Int), goodL ss left l = true → l.length = ss.length
  | [], _, [], _ => rfl
  | [], _, _ :: _, h => by simp [goodL] at h
  | _ :: _, _, [], h => by simp [goodL] at h
  | s :: ss, left, h :: hs, hg => by
    simp [goodL] at hg
    simp [goodL_length ss _ hs hg.2]

/-- The sum of what the hours of a list cost. -/
def sumW (w : Str → Int → Int) : List Str → List Int → Int
  | s :: ss, h :: hs => w s h + sumW w ss hs
  | _, _ => 0
def costL (ss : List Str) (l : List Int) : Int := sumW stepsI ss l
/-- Each street may have its hour. -/
def mayL (w : Str → Int → Int) : List Str → List Int → Bool
  | s :: ss, h :: hs => decide (0 ≤ w s h) && mayL w ss hs
  | _, _ => true

/-- The hours that a street can have. -/
def hrs (s : Str) : List Int := (List.range (s.to - s.frm + 1).toNat).map fun k : Nat => s.frm + (k : Int)
theorem mem_hrs {s : Str} {h : Int} : h ∈ hrs s ↔ s.frm ≤ h ∧ h ≤ s.to := by
  simp only [hrs, List.mem_map, List.mem_range]
  constructor
  · rintro ⟨k, hk, rfl⟩; omega
  · intro ⟨a, b⟩; exact ⟨(h - s.frm).toNat, by omega, by omega⟩

/-- All new rosters that may be, the first one first. -/
def allL (w : Str → Int → Int) : List Str → List Int → List (List Int)
  | [], _ => [[]]
  | s :: ss, left => (hrs s).flatMap fun h => if w s h < 0 ∨ at_ left h = 0 then [] else (allL w ss (dec left h)).map (h :: ·)
theorem mem_allL {w : Str → Int → Int} : ∀ {ss : List Str} {left l : List Int}, l ∈ allL w ss left ↔ goodL ss left l = true ∧ mayL w ss l = true
  | [], left, l => by
    cases l with
    | nil => simp [allL, goodL, mayL]
    | cons x l => simp [allL, goodL]
  | s :: ss, left, l => by
    simp only [allL, List.mem_flatMap, mem_hrs]
    cases l with
    | nil =>
      simp only [goodL]
      constructor
      · rintro ⟨h, _, hm⟩
        split at hm <;> simp at hm
      · intro h; simp at h
    | cons x l =>
      simp only [goodL, mayL, Bool.and_eq_true, inR_iff, bne_iff_ne, ne_eq, decide_eq_true_eq]
      constructor
      · rintro ⟨h, hr, hm⟩
        split at hm
        · simp at hm
        · rename_i hc
          obtain ⟨l', hl', he⟩ := List.mem_map.1 hm
          injection he with e1 e2
          subst e1 e2
          have := (mem_allL (ss := ss)).1 hl'
          exact ⟨⟨⟨hr, fun e => hc (.inr e)⟩, this.1⟩, by omega, this.2⟩
      · rintro ⟨⟨⟨hr, h1⟩, h2⟩, h3, h4⟩
        refine ⟨x, hr, ?_⟩
        rw [if_neg (by rintro (h | h); omega; exact h1 h)]
        exact List.mem_map.2 ⟨l, mem_allL.2 ⟨h2, h4⟩, rfl⟩

/-- One hour is tried: what it costs and the rest, or nothing. -/
def tryH (w : Str → Int → Int) (best : List Int → Int × Int) (s : Str) (left : List Int) (out : Int × Int) (h : Int) : Int × Int :=
  if w s h < 0 ∨ at_ left h = 0 then out
  else if (best (dec left h)).2 < 0 then out
  else if out.2 < 0 ∨ w s h + (best (dec left h)).1 < out.1 then (w s h + (best (dec left h)).1, h) else out
/-- The least cost of the streets, and the first hour of the first of them with which it is (below 0: there is none). -/
def bestP (w : Str → Int → Int) : List Str → List Int → Int × Int
  | [], _ => (0, 0)
  | s :: ss, left => (hrs s).foldl (tryH w (bestP w ss) s left) (0, -1)
def rosterP (w : Str → Int → Int) : List Str → List Int → List Int
  | [], _ => []
  | s :: ss, left => (bestP w (s :: ss) left).2 :: rosterP w ss (dec left (bestP w (s :: ss) left).2)

/-- The first one of a list with the least value. -/
def firstMin {α : Type} (f : α → Int) : List α → Option α
  | [] => none
  | x :: l => match firstMin f l with
    | none => some x
    | some y => if f y < f x then some y else some x
theorem firstMin_none {α : Type} {f : α → Int} : ∀ {l : List α}, firstMin f l = none ↔ l = []
  | [] => by simp [firstMin]
  | x :: l => by
    simp only [firstMin, reduceCtorEq, iff_false]
    split
    · simp
    · split <;> simp
theorem firstMin_mem {α : Type} {f : α → Int} : ∀ {l : List α} {x : α}, firstMin f l = some x → x ∈ l
  | [], _, h => by simp [firstMin] at h
  | y :: l, x, h => by
    simp only [firstMin] at h
    split at h
    · injection h with h; simp [h]
    · rename_i z hz
      split at h
      · injection h with h; subst h; exact List.mem_cons_of_mem _ (firstMin_mem hz)
      · injection h with h; simp [h]
theorem firstMin_le {α : Type} {f : α → Int} : ∀ {l : List α} {x : α}, firstMin f l = some x → ∀ y ∈ l, f x ≤ f y
  | [], _, h => by simp [firstMin] at h
  | z :: l, x, h => by
    simp only [firstMin] at h
    intro y hy
    split at h
    · rename_i hn
      injection h with h
      rw [firstMin_none.1 hn] at hy
      simp at hy
      subst h hy; omega
    · rename_i u hu
      have hle := firstMin_le hu
      split at h
      · injection h with h; subst h
        rcases List.mem_cons.1 hy with rfl | hy
        · omega
        · exact hle y hy
      · injection h with h; subst h
        rcases List.mem_cons.1 hy with rfl | hy
        · omega
        · have := hle y hy; omega
/-- Of two firsts the one that is less, the left one if they are alike. -/
def minO {α : Type} (f : α → Int) : Option α → Option α → Option α
  | none, b => b
  | some a, none => some a
  | some a, some b => if f b < f a then some b else some a
theorem firstMin_append {α : Type} (f : α → Int) : ∀ (l m : List α), firstMin f (l ++ m) = minO f (firstMin f l) (firstMin f m)
  | [], m => rfl
  | x :: l, m => by
    simp only [List.cons_append, firstMin, firstMin_append f l m]
    rcases h1 : firstMin f l with _ | a
    · rcases h2 : firstMin f m with _ | b <;> simp only [minO]
    · rcases h2 : firstMin f m with _ | b
      · by_cases h4 : f a < f x <;> simp only [minO, h4, if_true, if_false]
      · by_cases h3 : f b < f a
        · by_cases h4 : f a < f x
          · simp only [minO, h3, h4, if_true]
            rw [if_pos (by omega)]
          · simp only [minO, h3, h4, if_true, if_false]
        · by_cases h4 : f a < f x
          · simp only [minO, h3, h4, if_true, if_false]
          · simp only [minO, h3, h4, if_false]
            rw [if_neg (by omega)]
theorem firstMin_map {α β : Type} (f : β → Int) (g : α → β) (c : Int) (k : α → Int) (hk : ∀ a, f (g a) = c + k a) : ∀ l : List α, firstMin f (l.map g) = (firstMin k l).map g
  | [] => rfl
  | x :: l => by
    simp only [List.map_cons, firstMin, firstMin_map f g c k hk l]
    cases firstMin k l with
    | none => rfl
    | some y =>
      simp only [Option.map_some, hk]
      by_cases h : k y < k x
      · rw [if_pos h, if_pos (by omega)]; rfl
      · rw [if_neg h, if_neg (by omega)]; rfl

/-- What 'bestP' hands back stands for the first of the cheapest ones. -/
def Stands (w : Str → Int → Int) (s : Str) (ss : List Str) (left : List Int) (out : Int × Int) (o : Option (List Int)) : Prop :=
  match o with
  | none => out.2 < 0
  | some l => 0 ≤ out.2 ∧ l = out.2 :: rosterP w ss (dec left out.2) ∧ sumW w (s :: ss) l = out.1
/-- The hours of a street are hours. -/
def fromOk (ss : List Str) : Prop := ∀ s ∈ ss, 0 ≤ s.frm

theorem best_stands (w : Str → Int → Int) : ∀ (ss : List Str) (left : List Int), fromOk ss →
    match firstMin (sumW w ss) (allL w ss left) with
    | none => (bestP w ss left).2 < 0
    | some l => 0 ≤ (bestP w ss left).2 ∧ l = rosterP w ss left ∧ sumW w ss l = (bestP w ss left).1
  | [], left, _ => by simp [allL, firstMin, bestP, rosterP, sumW]
  | s :: ss, left, hf => by
    have ih := fun l => best_stands w ss l (fun x hx => hf x (by simp [hx]))
    have key : ∀ (hs : List Int) (out : Int × Int) (o : Option (List Int)), (∀ h ∈ hs, 0 ≤ h) → Stands w s ss left out o →
        Stands w s ss left (hs.foldl (tryH w (bestP w ss) s left) out) (minO (sumW w (s :: ss)) o (firstMin (sumW w (s :: ss)) (hs.flatMap fun h => if w s h < 0 ∨ at_ left h = 0 then [] else (allL w ss (dec left h)).map (h :: ·)))) := by
      intro hs
      induction hs with
      | nil =>
        intro out o _ h
        have : minO (sumW w (s :: ss)) o none = o := by cases o <;> rfl
        simpa [firstMin, this] using h
      | cons h hs ih2 =>
        intro out o hh hst
        simp only [List.foldl_cons, List.flatMap_cons, firstMin_append]
        have assoc : ∀ a b c : Option (List Int), minO (sumW w (s :: ss)) a (minO (sumW w (s :: ss)) b c) = minO (sumW w (s :: ss)) (minO (sumW w (s :: ss)) a b) c := by
          intro a b c
          cases a <;> cases b <;> cases c <;> simp only [minO]
          · rename_i a b
            split <;> rfl
          · rename_i a b c
            by_cases h1 : sumW w (s :: ss) c < sumW w (s :: ss) b <;> by_cases h2 : sumW w (s :: ss) b < sumW w (s :: ss) a <;> simp only [h1, h2, if_true, if_false]
            · rw [if_pos (by omega)]
            · rw [if_neg (by omega)]
        rw [assoc]
        refine ih2 _ _ (fun x hx => hh x (by simp [hx])) ?_
        unfold tryH
        by_cases hc : w s h < 0 ∨ at_ left h = 0
        · rw [if_pos hc, if_pos hc]
          have : minO (sumW w (s :: ss)) o none = o := by cases o <;> rfl
          simpa [firstMin, this] using hst
        · rw [if_neg hc, if_neg hc, firstMin_map (sumW w (s :: ss)) (h :: ·) (w s h) (sumW w ss) (fun a => rfl)]
          have ihh := ih (dec left h)
          cases hb : firstMin (sumW w ss) (allL w ss (dec left h)) with
          | none =>
            rw [hb] at ihh
            rw [if_pos ihh]
            have : minO (sumW w (s :: ss)) o none = o := by cases o <;> rfl
            simpa [this] using hst
          | some l =>
            rw [hb] at ihh
            obtain ⟨h1, h2, h3⟩ := ihh
            rw [if_neg (by omega)]
            simp only [Option.map_some]
            have hl : sumW w (s :: ss) (h :: l) = w s h + (bestP w ss (dec left h)).1 := by simp [sumW, h3]
            cases o with
            | none =>
              have hst : out.2 < 0 := hst
              rw [if_pos (.inl hst)]
              exact ⟨hh h (by simp), by rw [h2], hl⟩
            | some m =>
              obtain ⟨k1, k2, k3⟩ := hst
              simp only [minO, hl, k3]
              by_cases hlt : w s h + (bestP w ss (dec left h)).1 < out.1
              · rw [if_pos (.inr hlt), if_pos hlt]
                exact ⟨hh h (by simp), by rw [h2], hl⟩
              · rw [if_neg (by rintro (h | h) <;> omega), if_neg hlt]
                exact ⟨k1, k2, k3⟩
    have := key (hrs s) (0, -1) none (fun h hh => by have := mem_hrs.1 hh; have := hf s (by simp); omega) (by show (-1 : Int) < 0; omega)
    have e : minO (sumW w (s :: ss)) none (firstMin (sumW w (s :: ss)) (allL w (s :: ss) left)) = firstMin (sumW w (s :: ss)) (allL w (s :: ss) left) := rfl
    have this : Stands w s ss left (bestP w (s :: ss) left) (firstMin (sumW w (s :: ss)) (allL w (s :: ss) left)) := this
    unfold Stands at this
    cases h : firstMin (sumW w (s :: ss)) (allL w (s :: ss) left) with
    | none => rw [h] at this; exact this
    | some l => rw [h] at this; exact this
end Go.Proofs.YtldcehhhndlhdaaGreatDoor.Hr
/- Plain laws of the cheapest rosters, as the program reckons them. No program here. -/
namespace Go.Proofs.YtldcehhhndlhdaaGreatDoor.Hr
/-- Eight numbers of room, each small and not below zero. -/
structure LOk (left : List Int) : Prop where
  len : left.length = 8
  lo : ∀ x ∈ left, 0 ≤ x ∧ x ≤ 7
/-- A street of a valid roster. -/
structure StrOk (s : Str) : Prop where
  has0 : -1 ≤ s.has
  has1 : s.has ≤ 7
  frm0 : 0 ≤ s.frm
  ft : s.frm ≤ s.to
  to1 : s.to ≤ 7
  cost0 : 0 ≤ s.cost
  cost1 : s.cost ≤ 9
theorem LOk.bd {left : List Int} (h : LOk left) (i : Int) : 0 ≤ at_ left i ∧ at_ left i ≤ 7 := by
  unfold at_
  rw [List.getD_eq_getElem?_getD]
  cases hx : left[i.toNat]? with
  | none => simp
  | some x => exact h.lo x (List.mem_of_getElem? hx)
theorem LOk.dec {left : List Int} (h : LOk left) {i : Int} (hi : at_ left i ≠ 0) : LOk (dec left i) := by
  refine ⟨by rw [dec_length]; exact h.len, fun x hx => ?_⟩
  rcases List.mem_or_eq_of_mem_set hx with hx | rfl
  · exact h.lo x hx
  · have := h.bd i; omega
/-- The best of the first j hours of a street. -/
def bestTo (w : Str → Int → Int) (ss : List Str) (s : Str) (left : List Int) (j : Nat) : Int × Int := ((List.range j).map fun k : Nat => s.frm + (k : Int)).foldl (tryH w (bestP w ss) s left) (0, -1)
theorem bestTo_zero (w : Str → Int → Int) (ss : List Str) (s : Str) (left : List Int) : bestTo w ss s left 0 = (0, -1) := rfl
theorem bestTo_succ (w : Str → Int → Int) (ss : List Str) (s : Str) (left : List Int) (j : Nat) : bestTo w ss s left (j + 1) = tryH w (bestP w ss) s left (bestTo w ss s left j) (s.frm + (j : Int)) := by
  unfold bestTo
  rw [List.range_succ, List.map_append, List.foldl_append]
  rfl
theorem bestTo_all (w : Str → Int → Int) (ss : List Str) (s : Str) (left : List Int) : bestTo w ss s left (s.to - s.frm + 1).toNat = bestP w (s :: ss) left := rfl
/-- What a street costs is at most 1800. -/
def LowW (w : Str → Int → Int) (ss : List Str) : Prop := ∀ s ∈ ss, ∀ h, s.frm ≤ h → h ≤ s.to → w s h ≤ 1800
theorem tryH_bd {w : Str → Int → Int} {best : List Int → Int × Int} {s : Str} {left : List Int} {out : Int × Int} {h M : Int} (hw : w s h ≤ 1800) (hb : ∀ l, 0 ≤ (best l).1 ∧ (best l).1 ≤ M) (ho : 0 ≤ out.1 ∧ out.1 ≤ M + 1800) : 0 ≤ (tryH w best s left out h).1 ∧ (tryH w best s left out h).1 ≤ M + 1800 := by
  unfold tryH
  split
  · exact ho
  · rename_i hc
    split
    · exact ho
    · split
      · have := hb (dec left h)
        have : ¬ w s h < 0 := fun h => hc (.inl h)
        simp only; omega
      · exact ho
theorem bestTo_bd {w : Str → Int → Int} {ss : List Str} {s : Str} (hw : ∀ h, s.frm ≤ h → h ≤ s.to → w s h ≤ 1800) {M : Int} (hM : 0 ≤ M) (hb : ∀ l, 0 ≤ (bestP w ss l).1 ∧ (bestP w ss l).1 ≤ M) (left : List Int) : ∀ j : Nat, j ≤ (s.to - s.frm + 1).toNat → 0 ≤ (bestTo w ss s left j).1 ∧ (bestTo w ss s left j).1 ≤ M + 1800
  | 0, _ => by rw [bestTo_zero]; simp only; omega
  | j + 1, hj => by
    rw [bestTo_succ]
    exact tryH_bd (hw _ (by omega) (by omega)) hb (bestTo_bd hw hM hb left j (by omega))
theorem bestP_bd {w : Str → Int → Int} : ∀ {ss : List Str}, LowW w ss → ∀ left, 0 ≤ (bestP w ss left).1 ∧ (bestP w ss left).1 ≤ 1800 * ss.length
  | [], _, left => by simp [bestP]
  | s :: ss, h, left => by
    have ih := bestP_bd (ss := ss) (fun s' hs' => h s' (by simp [hs']))
    have := bestTo_bd (h s (by simp)) (by omega) ih left _ (Nat.le_refl _)
    rw [bestTo_all] at this
    simp only [List.length_cons]
    omega
theorem tryH_hour {w : Str → Int → Int} {best : List Int → Int × Int} {s : Str} {left : List Int} {out : Int × Int} {h : Int} (hh : h ≤ 7) (ho : -1 ≤ out.2 ∧ out.2 ≤ 7) (h0 : 0 ≤ h) : -1 ≤ (tryH w best s left out h).2 ∧ (tryH w best s left out h).2 ≤ 7 := by
  unfold tryH
  split
  · exact ho
  · split
    · exact ho
    · split
      · simp only; omega
      · exact ho
theorem bestTo_hour {w : Str → Int → Int} {ss : List Str} {s : Str} (hs : StrOk s) (left : List Int) : ∀ j : Nat, j ≤ (s.to - s.frm + 1).toNat → -1 ≤ (bestTo w ss s left j).2 ∧ (bestTo w ss s left j).2 ≤ 7
  | 0, _ => by rw [bestTo_zero]; simp only; omega
  | j + 1, hj => by
    rw [bestTo_succ]
    have := hs.frm0; have := hs.to1; have := hs.ft
    exact tryH_hour (by omega) (bestTo_hour hs left j (by omega)) (by omega)
end Go.Proofs.YtldcehhhndlhdaaGreatDoor.Hr
/- What the program's functions answer, in plain words. No program here. -/
namespace Go.Proofs.YtldcehhhndlhdaaGreatDoor.Hr
/-- The room, in eight numbers. -/
def pad (l : List Int) : List Int := l ++ List.replicate (8 - l.length) 0
theorem pad_len (room : List Int) (hl : room.length ≤ 8) : (pad room).length = 8 := by simp [pad]; omega
theorem pad_ok {l : List Int} (hl : l.length ≤ 8) (h : ∀ x ∈ l, 0 ≤ x ∧ x ≤ 7) : LOk (pad l) :=
  ⟨by simp [pad]; omega, fun x hx => by
    rcases List.mem_append.1 hx with hx | hx
    · exact h x hx
    · have := List.eq_of_mem_replicate hx; omega⟩
structure ROk (r : Ros) : Prop where
  rl : r.room.length ≤ 8
  rm : ∀ x ∈ r.room, 0 ≤ x ∧ x ≤ 6
  sl : r.strs.length ≤ 6
  so : ∀ s ∈ r.strs, StrOk s ∧ s.to < r.room.length ∧ s.has < r.room.length
theorem valid_iff {r : Ros} : valid r = true ↔ ROk r := by
  simp only [valid, Bool.and_eq_true, decide_eq_true_eq, Bool.not_eq_true', List.any_eq_false]
  constructor
  · rintro ⟨⟨⟨h1, h2⟩, h3⟩, h4⟩
    refine ⟨h1, fun x hx => ?_, h3, fun s hs => ?_⟩
    · have := h2 x hx; simp [badRoom, inR] at this; omega
    · have := h4 s hs
      simp [badStr, isHour, inR] at this
      obtain ⟨⟨⟨⟨a, b⟩, c⟩, d⟩, e⟩ := this
      by_cases h : s.has = -1
      · exact ⟨⟨by omega, by omega, by omega, by omega, by omega, by omega, by omega⟩, by omega, by omega⟩
      · have := a h
        exact ⟨⟨by omega, by omega, by omega, by omega, by omega, by omega, by omega⟩, by omega, by omega⟩
  · rintro ⟨h1, h2, h3, h4⟩
    refine ⟨⟨⟨h1, fun x hx => ?_⟩, h3⟩, fun s hs => ?_⟩
    · have := h2 x hx; simp [badRoom, inR]; omega
    · obtain ⟨⟨a, b, c, d, e, f, g⟩, h, i⟩ := h4 s hs
      simp [badStr, isHour, inR]
      refine ⟨⟨⟨⟨?_, ?_⟩, ?_⟩, ?_⟩, ?_⟩ <;> omega
def bestR (w : Str → Int → Int) (r : Ros) : Int × Int := bestP w r.strs (pad r.room)
/-- What 'known' hands back beside the clerk. -/
def knownR (w : Str → Int → Int) (r : Ros) (is : Bool) : Int × Int :=
  if askE r is = 0 then (if (bestR w r).2 < 0 then (0, 3) else ((bestR w r).1, 0)) else (0, askE r is)
def leastR (r : Ros) : Int × Int := knownR stepsI r true
def fewestR (r : Ros) : Int × Int := knownR onceI r true
def farN (r : Ros) : Nat := ((List.range 9).find? fun n : Nat => decide (0 ≤ (bestR (upToI (n : Int)) r).2)).getD 0
def farR (r : Ros) : Int × Int := if (leastR r).2 = 0 then ((farN r : Int), 0) else (0, (leastR r).2)
def rosterR (r : Ros) : List Int × Int := if (leastR r).2 = 0 then (rosterP stepsI r.strs (pad r.room), 0) else ([], (leastR r).2)
def fairR (r : Ros) : List Int × Int := if (leastR r).2 = 0 then (rosterP (upToI (farN r : Int)) r.strs (pad r.room), 0) else ([], (leastR r).2)
theorem askE_zero {r : Ros} {is : Bool} : askE r is = 0 ↔ valid r = true ∧ is = true := by
  unfold askE
  cases valid r <;> cases is <;> simp
theorem bestP_none {w : Str → Int → Int} {ss : List Str} {left : List Int} (hf : fromOk ss) : (bestP w ss left).2 < 0 ↔ allL w ss left = [] := by
  have h := best_stands w ss left hf
  constructor
  · intro hn
    cases hm : firstMin (sumW w ss) (allL w ss left) with
    | none => exact firstMin_none.1 hm
    | some l => rw [hm] at h; have := h.1; omega
  · intro he
    rw [he] at h
    exact h
theorem fromOk_of {r : Ros} (h : ROk r) : fromOk r.strs := fun s hs => (h.so s hs).1.frm0
theorem moveI_le7 {s : Str} (hs : StrOk s) {h : Int} (h0 : s.frm ≤ h) (h1 : h ≤ s.to) : moveI s h ≤ 8 := by
  obtain ⟨a, b, c, d, e, f, g⟩ := hs
  unfold moveI; split <;> omega
theorem mayL_upTo {ss : List Str} : ∀ {left l : List Int} {n : Int}, (∀ s ∈ ss, StrOk s) → 8 ≤ n → goodL ss left l = true → mayL (upToI n) ss l = true := by
  induction ss with
  | nil => intro left l n _ _ hg; cases l <;> rfl
  | cons s ss ih =>
    intro left l n hok hn hg
    cases l with
    | nil => rfl
    | cons h hs =>
      simp only [goodL, Bool.and_eq_true, inR_iff] at hg
      simp only [mayL, Bool.and_eq_true, decide_eq_true_eq]
      refine ⟨?_, ih (fun s hs => hok s (by simp [hs])) hn hg.2⟩
      have hso := hok s (by simp)
      have := moveI_le7 hso hg.1.1.1 hg.1.1.2
      unfold upToI
      rw [if_neg (by omega)]
      exact Int.mul_nonneg (moveI_nonneg _ _) hso.cost0
theorem mayL_steps {ss : List Str} (hok : ∀ s ∈ ss, StrOk s) : ∀ (l : List Int), mayL stepsI ss l = true := by
  induction ss with
  | nil => intro l; cases l <;> rfl
  | cons s ss ih =>
    intro l
    cases l with
    | nil => rfl
    | cons h hs =>
      simp only [mayL, Bool.and_eq_true, decide_eq_true_eq]
      exact ⟨Int.mul_nonneg (moveI_nonneg _ _) (hok s (by simp)).cost0, ih (fun s hs => hok s (by simp [hs])) hs⟩
theorem mayL_once {ss : List Str} : ∀ (l : List Int), mayL onceI ss l = true := by
  induction ss with
  | nil => intro l; cases l <;> rfl
  | cons s ss ih =>
    intro l
    cases l with
    | nil => rfl
    | cons h hs =>
      simp only [mayL, Bool.and_eq_true, decide_eq_true_eq]
      refine ⟨?_, ih hs⟩
      have := moveI_nonneg s h
      unfold onceI; omega
/-- There is a new roster: then there is one in which nobody moves by more than eight hours. -/
theorem far_ends {r : Ros} (h : ROk r) (hl : 0 ≤ (bestR stepsI r).2) : ∃ n : Nat, n < 9 ∧ 0 ≤ (bestR (upToI (n : Int)) r).2 := by
  refine ⟨8, by omega, ?_⟩
  apply Classical.byContradiction
  intro hn
  have h1 := (bestP_none (fromOk_of h)).1 (show (bestR (upToI ((8 : Nat) : Int)) r).2 < 0 by omega)
  have h2 : allL stepsI r.strs (pad r.room) ≠ [] := fun e => by
    have := (bestP_none (w := stepsI) (left := pad r.room) (fromOk_of h)).2 e
    unfold bestR at hl; omega
  obtain ⟨l, hl'⟩ := List.exists_mem_of_ne_nil _ h2
  have h3 := (mem_allL.1 hl').1
  have : l ∈ allL (upToI ((8 : Nat) : Int)) r.strs (pad r.room) := mem_allL.2 ⟨h3, mayL_upTo (fun s hs => (h.so s hs).1) (by omega) h3⟩
  rw [h1] at this
  simp at this
theorem farN_of {r : Ros} {n : Nat} (h1 : ∀ k : Nat, k < n → (bestR (upToI (k : Int)) r).2 < 0) (h2 : 0 ≤ (bestR (upToI (n : Int)) r).2) (hn : n < 9) : farN r = n := by
  unfold farN
  have : (List.range 9).find? (fun n : Nat => decide (0 ≤ (bestR (upToI (n : Int)) r).2)) = some n := by
    rw [List.find?_eq_some_iff_append]
    refine ⟨by simpa using h2, List.range n, (List.range' (n + 1) (8 - n)), ?_, fun a ha => ?_⟩
    · rw [List.range_eq_range', List.range_eq_range', show List.range' 0 9 = List.range' 0 (n + (1 + (8 - n))) by rw [show n + (1 + (8 - n)) = 9 by omega], ← List.range'_append_1, ← List.range'_append_1]
      simp
    · have := h1 a (List.mem_range.1 ha)
      simp; omega
  rw [this]; rfl
/-- A step of the cheapest roster. -/
theorem best_step {w : Str → Int → Int} {s : Str} {ss : List Str} {left : List Int} (h : 0 ≤ (bestP w (s :: ss) left).2) :
    s.frm ≤ (bestP w (s :: ss) left).2 ∧ (bestP w (s :: ss) left).2 ≤ s.to ∧ at_ left (bestP w (s :: ss) left).2 ≠ 0 ∧ 0 ≤ (bestP w ss (dec left (bestP w (s :: ss) left).2)).2 := by
  have key : ∀ (hs : List Int) (out : Int × Int), (∀ x ∈ hs, s.frm ≤ x ∧ x ≤ s.to) → (0 ≤ out.2 → s.frm ≤ out.2 ∧ out.2 ≤ s.to ∧ at_ left out.2 ≠ 0 ∧ 0 ≤ (bestP w ss (dec left out.2)).2) →
      0 ≤ (hs.foldl (tryH w (bestP w ss) s left) out).2 → s.frm ≤ (hs.foldl (tryH w (bestP w ss) s left) out).2 ∧ (hs.foldl (tryH w (bestP w ss) s left) out).2 ≤ s.to ∧ at_ left (hs.foldl (tryH w (bestP w ss) s left) out).2 ≠ 0 ∧ 0 ≤ (bestP w ss (dec left (hs.foldl (tryH w (bestP w ss) s left) out).2)).2 := by
    intro hs
    induction hs with
    | nil => intro out _ ho h; exact ho h
    | cons x hs ih =>
      intro out hx ho
      refine ih _ (fun y hy => hx y (by simp [hy])) (fun h => ?_)
      unfold tryH at h ⊢
      split
      · rename_i hc; rw [if_pos hc] at h; exact ho h
      · rename_i hc
        rw [if_neg hc] at h
        split
        · rename_i hc2; rw [if_pos hc2] at h; exact ho h
        · rename_i hc2
          rw [if_neg hc2] at h
          split
          · exact ⟨(hx x (by simp)).1, (hx x (by simp)).2, fun e => hc (.inr e), by simp only; omega⟩
          · rename_i hc3; rw [if_neg hc3] at h; exact ho h
  exact key (hrs s) (0, -1) (fun x hx => mem_hrs.1 hx) (fun h => by simp at h) h
end Go.Proofs.YtldcehhhndlhdaaGreatDoor.Hr
/- What a list of hours costs, piece by piece; what is given; which two should exchange their hours. No program here. -/
namespace Go.Proofs.YtldcehhhndlhdaaGreatDoor.Hr
/-- Each street has one of its hours. -/
structure InL (ss : List Str) (l : List Int) : Prop where
  len : l.length = ss.length
  inn : ∀ k (h1 : k < ss.length) (h2 : k < l.length), ss[k].frm ≤ l[k] ∧ l[k] ≤ ss[k].to
theorem InL.of_good : ∀ {ss : List Str} {left l : List Int}, goodL ss left l = true → InL ss l
  | [], _, [], _ => ⟨rfl, fun k h => absurd h (by simp)⟩
  | [], _, _ :: _, h => by simp [goodL] at h
  | _ :: _, _, [], h => by simp [goodL] at h
  | s :: ss, left, h :: hs, hg => by
    simp only [goodL, Bool.and_eq_true, inR_iff] at hg
    have ih := InL.of_good hg.2
    refine ⟨by simp [ih.len], fun k h1 h2 => ?_⟩
    cases k with
    | zero => exact hg.1.1
    | succ k => exact ih.inn k (by simpa using h1) (by simpa using h2)
theorem InL.of_new {r : Ros} {l : List Int} (h : newB r l = true) : InL r.strs l := InL.of_good h
theorem sumW_snoc (w : Str → Int → Int) : ∀ (ss : List Str) (l : List Int) (k : Nat) (h1 : k < ss.length) (h2 : k < l.length), sumW w (ss.take (k + 1)) (l.take (k + 1)) = sumW w (ss.take k) (l.take k) + w ss[k] l[k]
  | [], _, _, h, _ => absurd h (by simp)
  | _ :: _, [], _, _, h => absurd h (by simp)
  | s :: ss, h :: l, 0, _, _ => by simp [sumW]
  | s :: ss, h :: l, k + 1, h1, h2 => by
    have := sumW_snoc w ss l k (by simpa using h1) (by simpa using h2)
    simp only [List.take_succ_cons, sumW, List.getElem_cons_succ]
    omega
theorem sumW_all (w : Str → Int → Int) {ss : List Str} {l : List Int} (h : l.length = ss.length) : sumW w (ss.take ss.length) (l.take ss.length) = sumW w ss l := by
  rw [List.take_length, ← h, List.take_length]
theorem sumW_bd {w : Str → Int → Int} {M : Int} (hM : 0 ≤ M) : ∀ (ss : List Str) (l : List Int), (∀ k (h1 : k < ss.length) (h2 : k < l.length), 0 ≤ w ss[k] l[k] ∧ w ss[k] l[k] ≤ M) → 0 ≤ sumW w ss l ∧ sumW w ss l ≤ M * ss.length
  | [], l, _ => by simp [sumW]
  | s :: ss, [], _ => by simp [sumW]; exact Int.mul_nonneg hM (by omega)
  | s :: ss, h :: l, hb => by
    have ih := sumW_bd hM ss l (fun k h1 h2 => hb (k + 1) (by simpa using h1) (by simpa using h2))
    have h0 := hb 0 (by simp) (by simp)
    simp only [List.getElem_cons_zero] at h0
    simp only [sumW, List.length_cons]
    have : M * ((ss.length + 1 : Nat) : Int) = M * ss.length + M := by rw [Int.natCast_add, Int.mul_add]; simp
    omega
def givenE (r : Ros) (l : List Int) : Int := if valid r then (if newB r l then 0 else 1) else 80
theorem givenE_zero {r : Ros} {l : List Int} : givenE r l = 0 ↔ valid r = true ∧ newB r l = true := by
  unfold givenE
  cases valid r <;> cases newB r l <;> simp
/-- A list in which two have exchanged their hours. -/
def exch (l : List Int) (a b : Nat) : List Int := (l.set a (l.getD b 0)).set b (l.getD a 0)
theorem exch_len (l : List Int) (a b : Nat) : (exch l a b).length = l.length := by simp [exch]
def swapB (r : Ros) (l : List Int) (a b : Nat) : Bool := newB r (exch l a b) && decide (costL r.strs (exch l a b) < costL r.strs l)
/-- The first two that should exchange their hours. -/
def SwapIs (r : Ros) (l : List Int) (res : (Int × Int) × Int) : Prop :=
  (∃ a b : Nat, a < b ∧ b < l.length ∧ res = (((a : Int), (b : Int)), 0) ∧ swapB r l a b = true ∧ ∀ a' b', a' < b' → b' < l.length → (a' < a ∨ a' = a ∧ b' < b) → swapB r l a' b' = false) ∨
  (res = ((0, 0), 3) ∧ ∀ a' b', a' < b' → b' < l.length → swapB r l a' b' = false)
theorem SwapIs.uniq {r : Ros} {l : List Int} {x y : (Int × Int) × Int} (h : SwapIs r l x) (k : SwapIs r l y) : x = y := by
  rcases h with ⟨a, b, h1, h2, rfl, h3, h4⟩ | ⟨rfl, h4⟩ <;> rcases k with ⟨a', b', k1, k2, rfl, k3, k4⟩ | ⟨rfl, k4⟩
  · have e1 : ¬ (a' < a ∨ a' = a ∧ b' < b) := fun e => by rw [h4 a' b' k1 k2 e] at k3; cases k3
    have e2 : ¬ (a < a' ∨ a = a' ∧ b < b') := fun e => by rw [k4 a b h1 h2 e] at h3; cases h3
    have : a = a' := by omega
    have : b = b' := by omega
    subst_vars; rfl
  · rw [k4 a b h1 h2] at h3; cases h3
  · rw [h4 a' b' k1 k2] at k3; cases k3
  · rfl
end Go.Proofs.YtldcehhhndlhdaaGreatDoor.Hr
/- Room given; whether a street keeps its hour: plain words. No program here. -/
namespace Go.Proofs.YtldcehhhndlhdaaGreatDoor.Hr
def roomier (r : Ros) (h : Nat) (n : Int) : Ros := { r with room := r.room.set h (r.room.getD h 0 + n) }
def giveR (r : Ros) (h : Int) : Int × Int :=
  if askE r (isHour r h) = 0 then (if r.room.getD h.toNat 0 = 6 then (0, 2) else if (leastR r).2 = 0 then ((leastR r).1 - (leastR (roomier r h.toNat 1)).1, 0) else (0, (leastR r).2)) else (0, askE r (isHour r h))
theorem isHour_spec {r : Ros} {n : Int} (h : isHour r n = true) : 0 ≤ n ∧ n < r.room.length := by
  simp [isHour, inR] at h; omega
theorem isStreet_spec {r : Ros} {n : Int} (h : isStreet r n = true) : 0 ≤ n ∧ n < r.strs.length := by
  simp [isStreet, inR] at h; omega
theorem lowSteps {ss : List Str} (hok : ∀ s ∈ ss, StrOk s) : LowW stepsI ss := fun s hs h h0 h1 => by
  have ho := hok s hs
  have hm := moveI_le7 ho h0 h1
  have hm0 := moveI_nonneg s h
  have := Int.mul_le_mul hm ho.cost1 ho.cost0 (by omega : (0 : Int) ≤ 8)
  unfold stepsI; omega
theorem leastR_bd (r : Ros) : 0 ≤ (leastR r).1 ∧ (leastR r).1 ≤ 10800 := by
  unfold leastR knownR
  by_cases h : askE r true = 0
  · rw [if_pos h]
    have hv := valid_iff.1 (askE_zero.1 h).1
    by_cases h2 : (bestR stepsI r).2 < 0
    · rw [if_pos h2]; simp
    · rw [if_neg h2]
      have := bestP_bd (lowSteps (fun s hs => (hv.so s hs).1)) (pad r.room)
      have := hv.sl
      unfold bestR; simp only; omega
  · rw [if_neg h]; simp
/-- A street that can have one hour alone. -/
def fixS (r : Ros) (st : Nat) (h : Int) : Ros := { r with strs := r.strs.modify st fun s => { s with frm := h, to := h } }
def bHit (r : Ros) (st : Nat) (n h : Int) : Bool := decide (0 ≤ (bestR stepsI (fixS r st h)).2) && ((bestR stepsI (fixS r st h)).1 == n)
def staysTo (r : Ros) (st : Nat) (n : Int) (s : Str) (j : Nat) : Bool := (List.range j).any fun k => bHit r st n (s.frm + (k : Int)) && (s.frm + (k : Int) == s.has)
def goesTo (r : Ros) (st : Nat) (n : Int) (s : Str) (j : Nat) : Bool := (List.range j).any fun k => bHit r st n (s.frm + (k : Int)) && (s.frm + (k : Int) != s.has)
theorem staysTo_succ (r : Ros) (st : Nat) (n : Int) (s : Str) (j : Nat) : staysTo r st n s (j + 1) = (staysTo r st n s j || (bHit r st n (s.frm + (j : Int)) && (s.frm + (j : Int) == s.has))) := by
  simp [staysTo, List.range_succ]
theorem goesTo_succ (r : Ros) (st : Nat) (n : Int) (s : Str) (j : Nat) : goesTo r st n s (j + 1) = (goesTo r st n s j || (bHit r st n (s.frm + (j : Int)) && (s.frm + (j : Int) != s.has))) := by
  simp [goesTo, List.range_succ]
def wide (s : Str) : Nat := (s.to - s.frm + 1).toNat
def boundR (r : Ros) (st : Int) : Int × Int :=
  if (knownR stepsI r (isStreet r st)).2 = 0 then
    (let s := r.strs.getD st.toNat default
     let n := (knownR stepsI r (isStreet r st)).1
     if s.has = -1 then (2, 0) else if goesTo r st.toNat n s (wide s) = false then (1, 0) else if staysTo r st.toNat n s (wide s) = false then (2, 0) else (3, 0))
  else (0, (knownR stepsI r (isStreet r st)).2)
theorem fixS_len (r : Ros) (st : Nat) (h : Int) : (fixS r st h).strs.length = r.strs.length := by simp [fixS]
theorem fixS_ok {r : Ros} (hv : ROk r) (st : Nat) {h : Int} (h0 : 0 ≤ h) (h1 : h ≤ 7) : ∀ s ∈ (fixS r st h).strs, StrOk s := by
  intro s hs
  obtain ⟨k, hk, rfl⟩ := List.mem_iff_getElem.1 hs
  have hk' : k < r.strs.length := by simpa [fixS] using hk
  have ho := (hv.so r.strs[k] (List.getElem_mem hk')).1
  simp only [fixS, List.getElem_modify]
  split
  · exact ⟨ho.has0, ho.has1, h0, Int.le_refl _, h1, ho.cost0, ho.cost1⟩
  · exact ho
theorem knownR_zero {w : Str → Int → Int} {r : Ros} {is : Bool} (h : (knownR w r is).2 = 0) : ROk r ∧ is = true ∧ 0 ≤ (bestR w r).2 ∧ (knownR w r is).1 = (bestR w r).1 := by
  unfold knownR at h ⊢
  by_cases ha : askE r is = 0
  · rw [if_pos ha] at h ⊢
    by_cases hb : (bestR w r).2 < 0
    · rw [if_pos hb] at h; simp at h
    · rw [if_neg hb]
      exact ⟨valid_iff.1 (askE_zero.1 ha).1, (askE_zero.1 ha).2, by omega, rfl⟩
  · rw [if_neg ha] at h; exact absurd h ha
end Go.Proofs.YtldcehhhndlhdaaGreatDoor.Hr
/- The chapter's example. No program here. -/
namespace Go.Proofs.YtldcehhhndlhdaaGreatDoor.Hr
def exR : Ros := { room := [1, 2, 1, 1], strs := [⟨0, 0, 2, 2⟩, ⟨0, 0, 1, 3⟩, ⟨1, 0, 3, 1⟩, ⟨2, 1, 2, 2⟩] }
def exQ : Ros := roomier exR 0 (-1)
theorem ex_least : leastR exR = (2, 0) := by decide +kernel
theorem ex_bound : boundR exR 1 = (1, 0) := by decide +kernel
theorem ex_give : giveR exR 0 = (2, 0) := by decide +kernel
theorem ex_roster : rosterR exQ = ([1, 1, 3, 2], 0) := by decide +kernel
theorem ex_far : farR exQ = (2, 0) := by decide +kernel
theorem ex_fewest : fewestR exQ = (3, 0) := by decide +kernel
theorem ex_given : givenE exR [0, 1, 1, 2] = 0 := by decide +kernel
theorem ex_swapB : swapB exR [0, 1, 1, 2] 0 1 = true := by decide +kernel
theorem ex_swap : SwapIs exR [0, 1, 1, 2] ((0, 1), 0) := .inl ⟨0, 1, by omega, by decide, rfl, ex_swapB, fun a' b' h1 _ h => by omega⟩
end Go.Proofs.YtldcehhhndlhdaaGreatDoor.Hr
