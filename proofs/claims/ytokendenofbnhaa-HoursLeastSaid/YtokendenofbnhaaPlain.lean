/- The plain words of layer 8: rosters, what is valid, what a new roster is, the cheapest ones. No program here. -/
namespace Go.Proofs.Ytokendenofbnhaa
/-- A street of a roster. -/
structure Str where
  has : Int
  frm : Int
  to : Int
  cost : Int
  deriving DecidableEq, Inhabited
/-- A roster: the room of each hour, and the streets. -/
structure Ros where
  room : List Int
  strs : List Str
  deriving DecidableEq, Inhabited
def inR (n lo hi : Int) : Bool := decide (lo ≤ n) && decide (n ≤ hi)
theorem inR_iff {n lo hi : Int} : inR n lo hi = true ↔ lo ≤ n ∧ n ≤ hi := by simp [inR]
theorem inR_not {n lo hi : Int} : inR n lo hi = false ↔ ¬ (lo ≤ n ∧ n ≤ hi) := by rw [← inR_iff]; simp
def isHour (r : Ros) (n : Int) : Bool := inR n 0 (r.room.length - 1)
def isStreet (r : Ros) (n : Int) : Bool := inR n 0 (r.strs.length - 1)
def badRoom (n : Int) : Bool := !inR n 0 6
def badStr (r : Ros) (s : Str) : Bool := (s.has != -1 && !isHour r s.has) || !isHour r s.frm || !isHour r s.to || decide (s.to < s.frm) || !inR s.cost 0 9
def valid (r : Ros) : Bool := decide (r.room.length ≤ 8) && !r.room.any badRoom && decide (r.strs.length ≤ 6) && !r.strs.any (badStr r)
def chk (r : Ros) : Int := if valid r then 0 else 80
def askE (r : Ros) (is : Bool) : Int := if valid r then (if is then 0 else 1) else 80
def moveI (s : Str) (h : Int) : Int := if s.has = -1 then 0 else max (s.has - h) (h - s.has)
def stepsI (s : Str) (h : Int) : Int := moveI s h * s.cost
def onceI (s : Str) (h : Int) : Int := min 1 (moveI s h)
def upToI (far : Int) (s : Str) (h : Int) : Int := if moveI s h > far then -1 else stepsI s h
theorem moveI_nonneg (s : Str) (h : Int) : 0 ≤ moveI s h := by unfold moveI; split <;> omega

/-! What is left of the room. -/
def at_ (l : List Int) (h : Int) : Int := l.getD h.toNat 0
def dec (l : List Int) (h : Int) : List Int := l.set h.toNat (at_ l h - 1)
theorem dec_length (l : List Int) (h : Int) : (dec l h).length = l.length := by simp [dec]
theorem at_set (l : List Int) (i : Nat) (x : Int) (h : Int) : at_ (l.set i x) h = if h.toNat = i ∧ i < l.length then x else at_ l h := by
  simp only [at_, List.getD_eq_getElem?_getD, List.getElem?_set]
  by_cases e : i = h.toNat
  · subst e
    by_cases hl : h.toNat < l.length
    · simp [hl]
    · simp [hl]
  · rw [if_neg e, if_neg (by omega)]
/-- A list of hours is a new roster for these streets, with so much room left. -/
def goodL : List Str → List Int → List Int → Bool
  | [], _, [] => true
  | s :: ss, left, h :: hs => inR h s.frm s.to && at_ left h != 0 && goodL ss (dec left h) hs
  | _, _, _ => false
def newB (r : Ros) (l : List Int) : Bool := goodL r.strs r.room l
theorem goodL_length : ∀ (ss : List Str) (left l : List Int), goodL ss left l = true → l.length = ss.length
  | [], _, [], _ => rfl
  | [], _, _ :: _, h => by simp [goodL] at h
  | _ :: _, _, [], h => by simp [goodL] at h
  | s :: ss, left, h :: hs, hg => by
    simp [goodL] at hg
    simp [goodL_length ss _ hs hg.2]

/-- The sum of what the hours of a list cost. -/
def sumW (w : Str → Int → Int) : List Str → List Int → Int
  | s :: ss, h :: hs => w s h + sumW w ss hs
  | _, _ => 0
def costL (ss : List Str) (l : List Int) : Int := sumW stepsI ss l
/-- Each street may have its hour. -/
def mayL (w : Str → Int → Int) : List Str → List Int → Bool
  | s :: ss, h :: hs => decide (0 ≤ w s h) && mayL w ss hs
  | _, _ => true

/-- The hours that a street can have. -/
def hrs (s : Str) : List Int := (List.range (s.to - s.frm + 1).toNat).map fun k : Nat => s.frm + (k : Int)
theorem mem_hrs {s : Str} {h : Int} : h ∈ hrs s ↔ s.frm ≤ h ∧ h ≤ s.to := by
  simp only [hrs, List.mem_map, List.mem_range]
  constructor
  · rintro ⟨k, hk, rfl⟩; omega
  · intro ⟨a, b⟩; exact ⟨(h - s.frm).toNat, by omega, by omega⟩

/-- All new rosters that may be, the first one first. -/
def allL (w : Str → Int → Int) : List Str → List Int → List (List Int)
  | [], _ => [[]]
  | s :: ss, left => (hrs s).flatMap fun h => if w s h < 0 ∨ at_ left h = 0 then [] else (allL w ss (dec left h)).map (h :: ·)
theorem mem_allL {w : Str → Int → Int} : ∀ {ss : List Str} {left l : List Int}, l ∈ allL w ss left ↔ goodL ss left l = true ∧ mayL w ss l = true
  | [], left, l => by
    cases l with
    | nil => simp [allL, goodL, mayL]
    | cons x l => simp [allL, goodL]
  | s :: ss, left, l => by
    simp only [allL, List.mem_flatMap, mem_hrs]
    cases l with
    | nil =>
      simp only [goodL]
      constructor
      · rintro ⟨h, _, hm⟩
        split at hm <;> simp at hm
      · intro h; simp at h
    | cons x l =>
      simp only [goodL, mayL, Bool.and_eq_true, inR_iff, bne_iff_ne, ne_eq, decide_eq_true_eq]
      constructor
      · rintro ⟨h, hr, hm⟩
        split at hm
        · simp at hm
        · rename_i hc
          obtain ⟨l', hl', he⟩ := List.mem_map.1 hm
          injection he with e1 e2
          subst e1 e2
          have := (mem_allL (ss := ss)).1 hl'
          exact ⟨⟨⟨hr, fun e => hc (.inr e)⟩, this.1⟩, by omega, this.2⟩
      · rintro ⟨⟨⟨hr, h1⟩, h2⟩, h3, h4⟩
        refine ⟨x, hr, ?_⟩
        rw [if_neg (by rintro (h | h); omega; exact h1 h)]
        exact List.mem_map.2 ⟨l, mem_allL.2 ⟨h2, h4⟩, rfl⟩

/-- One hour is tried: what it costs and the rest, or nothing. -/
def tryH (w : Str → Int → Int) (best : List Int → Int × Int) (s : Str) (left : List Int) (out : Int × Int) (h : Int) : Int × Int :=
  if w s h < 0 ∨ at_ left h = 0 then out
  else if (best (dec left h)).2 < 0 then out
  else if out.2 < 0 ∨ w s h + (best (dec left h)).1 < out.1 then (w s h + (best (dec left h)).1, h) else out
/-- The least cost of the streets, and the first hour of the first of them with which it is (below 0: there is none). -/
def bestP (w : Str → Int → Int) : List Str → List Int → Int × Int
  | [], _ => (0, 0)
  | s :: ss, left => (hrs s).foldl (tryH w (bestP w ss) s left) (0, -1)
def rosterP (w : Str → Int → Int) : List Str → List Int → List Int
  | [], _ => []
  | s :: ss, left => (bestP w (s :: ss) left).2 :: rosterP w ss (dec left (bestP w (s :: ss) left).2)

/-- The first one of a list with the least value. -/
def firstMin {α : Type} (f : α → Int) : List α → Option α
  | [] => none
  | x :: l => match firstMin f l with
    | none => some x
    | some y => if f y < f x then some y else some x
theorem firstMin_none {α : Type} {f : α → Int} : ∀ {l : List α}, firstMin f l = none ↔ l = []
  | [] => by simp [firstMin]
  | x :: l => by
    simp only [firstMin, reduceCtorEq, iff_false]
    split
    · simp
    · split <;> simp
theorem firstMin_mem {α : Type} {f : α → Int} : ∀ {l : List α} {x : α}, firstMin f l = some x → x ∈ l
  | [], _, h => by simp [firstMin] at h
  | y :: l, x, h => by
    simp only [firstMin] at h
    split at h
    · injection h with h; simp [h]
    · rename_i z hz
      split at h
      · injection h with h; subst h; exact List.mem_cons_of_mem _ (firstMin_mem hz)
      · injection h with h; simp [h]
theorem firstMin_le {α : Type} {f : α → Int} : ∀ {l : List α} {x : α}, firstMin f l = some x → ∀ y ∈ l, f x ≤ f y
  | [], _, h => by simp [firstMin] at h
  | z :: l, x, h => by
    simp only [firstMin] at h
    intro y hy
    split at h
    · rename_i hn
      injection h with h
      rw [firstMin_none.1 hn] at hy
      simp at hy
      subst h hy; omega
    · rename_i u hu
      have hle := firstMin_le hu
      split at h
      · injection h with h; subst h
        rcases List.mem_cons.1 hy with rfl | hy
        · omega
        · exact hle y hy
      · injection h with h; subst h
        rcases List.mem_cons.1 hy with rfl | hy
        · omega
        · have := hle y hy; omega
/-- Of two firsts the one that is less, the left one if they are alike. -/
def minO {α : Type} (f : α → Int) : Option α → Option α → Option α
  | none, b => b
  | some a, none => some a
  | some a, some b => if f b < f a then some b else some a
theorem firstMin_append {α : Type} (f : α → Int) : ∀ (l m : List α), firstMin f (l ++ m) = minO f (firstMin f l) (firstMin f m)
  | [], m => rfl
  | x :: l, m => by
    simp only [List.cons_append, firstMin, firstMin_append f l m]
    rcases h1 : firstMin f l with _ | a
    · rcases h2 : firstMin f m with _ | b <;> simp only [minO]
    · rcases h2 : firstMin f m with _ | b
      · by_cases h4 : f a < f x <;> simp only [minO, h4, if_true, if_false]
      · by_cases h3 : f b < f a
        · by_cases h4 : f a < f x
          · simp only [minO, h3, h4, if_true]
            rw [if_pos (by omega)]
          · simp only [minO, h3, h4, if_true, if_false]
        · by_cases h4 : f a < f x
          · simp only [minO, h3, h4, if_true, if_false]
          · simp only [minO, h3, h4, if_false]
            rw [if_neg (by omega)]
theorem firstMin_map {α β : Type} (f : β → Int) (g : α → β) (c : Int) (k : α → Int) (hk : ∀ a, f (g a) = c + k a) : ∀ l : List α, firstMin f (l.map g) = (firstMin k l).map g
  | [] => rfl
  | x :: l => by
    simp only [List.map_cons, firstMin, firstMin_map f g c k hk l]
    cases firstMin k l with
    | none => rfl
    | some y =>
      simp only [Option.map_some, hk]
      by_cases h : k y < k x
      · rw [if_pos h, if_pos (by omega)]; rfl
      · rw [if_neg h, if_neg (by omega)]; rfl

/-- What 'bestP' hands back stands for the first of the cheapest ones. -/
def Stands (w : Str → Int → Int) (s : Str) (ss : List Str) (left : List Int) (out : Int × Int) (o : Option (List Int)) : Prop :=
  match o with
  | none => out.2 < 0
  | some l => 0 ≤ out.2 ∧ l = out.2 :: rosterP w ss (dec left out.2) ∧ sumW w (s :: ss) l = out.1
/-- The hours of a street are hours. -/
def fromOk (ss : List Str) : Prop := ∀ s ∈ ss, 0 ≤ s.frm

theorem best_stands (w : Str → Int → Int) : ∀ (ss : List Str) (left : List Int), fromOk ss →
    match firstMin (sumW w ss) (allL w ss left) with
    | none => (bestP w ss left).2 < 0
    | some l => 0 ≤ (bestP w ss left).2 ∧ l = rosterP w ss left ∧ sumW w ss l = (bestP w ss left).1
  | [], left, _ => by simp [allL, firstMin, bestP, rosterP, sumW]
  | s :: ss, left, hf => by
    have ih := fun l => best_stands w ss l (fun x hx => hf x (by simp [hx]))
    have key : ∀ (hs : List Int) (out : Int × Int) (o : Option (List Int)), (∀ h ∈ hs, 0 ≤ h) → Stands w s ss left out o →
        Stands w s ss left (hs.foldl (tryH w (bestP w ss) s left) out) (minO (sumW w (s :: ss)) o (firstMin (sumW w (s :: ss)) (hs.flatMap fun h => if w s h < 0 ∨ at_ left h = 0 then [] else (allL w ss (dec left h)).map (h :: ·)))) := by
      intro hs
      induction hs with
      | nil =>
        intro out o _ h
        have : minO (sumW w (s :: ss)) o none = o := by cases o <;> rfl
        simpa [firstMin, this] using h
      | cons h hs ih2 =>
        intro out o hh hst
        simp only [List.foldl_cons, List.flatMap_cons, firstMin_append]
        have assoc : ∀ a b c : Option (List Int), minO (sumW w (s :: ss)) a (minO (sumW w (s :: ss)) b c) = minO (sumW w (s :: ss)) (minO (sumW w (s :: ss)) a b) c := by
          intro a b c
          cases a <;> cases b <;> cases c <;> simp only [minO]
          · rename_i a b
            split <;> rfl
          · rename_i a b c
            by_cases h1 : sumW w (s :: ss) c < sumW w (s :: ss) b <;> by_cases h2 : sumW w (s :: ss) b < sumW w (s :: ss) a <;> simp only [h1, h2, if_true, if_false]
            · rw [if_pos (by omega)]
            · rw [if_neg (by omega)]
        rw [assoc]
        refine ih2 _ _ (fun x hx => hh x (by simp [hx])) ?_
        unfold tryH
        by_cases hc : w s h < 0 ∨ at_ left h = 0
        · rw [if_pos hc, if_pos hc]
          have : minO (sumW w (s :: ss)) o none = o := by cases o <;> rfl
          simpa [firstMin, this] using hst
        · rw [if_neg hc, if_neg hc, firstMin_map (sumW w (s :: ss)) (h :: ·) (w s h) (sumW w ss) (fun a => rfl)]
          have ihh := ih (dec left h)
          cases hb : firstMin (sumW w ss) (allL w ss (dec left h)) with
          | none =>
            rw [hb] at ihh
            rw [if_pos ihh]
            have : minO (sumW w (s :: ss)) o none = o := by cases o <;> rfl
            simpa [this] using hst
          | some l =>
            rw [hb] at ihh
            obtain ⟨h1, h2, h3⟩ := ihh
            rw [if_neg (by omega)]
            simp only [Option.map_some]
            have hl : sumW w (s :: ss) (h :: l) = w s h + (bestP w ss (dec left h)).1 := by simp [sumW, h3]
            cases o with
            | none =>
              have hst : out.2 < 0 := hst
              rw [if_pos (.inl hst)]
              exact ⟨hh h (by simp), by rw [h2], hl⟩
            | some m =>
              obtain ⟨k1, k2, k3⟩ := hst
              simp only [minO, hl, k3]
              by_cases hlt : w s h + (bestP w ss (dec left h)).1 < out.1
              · rw [if_pos (.inr hlt), if_pos hlt]
                exact ⟨hh h (by simp), by rw [h2], hl⟩
              · rw [if_neg (by rintro (h | h) <;> omega), if_neg hlt]
                exact ⟨k1, k2, k3⟩
    have := key (hrs s) (0, -1) none (fun h hh => by have := mem_hrs.1 hh; have := hf s (by simp); omega) (by show (-1 : Int) < 0; omega)
    have e : minO (sumW w (s :: ss)) none (firstMin (sumW w (s :: ss)) (allL w (s :: ss) left)) = firstMin (sumW w (s :: ss)) (allL w (s :: ss) left) := rfl
    have this : Stands w s ss left (bestP w (s :: ss) left) (firstMin (sumW w (s :: ss)) (allL w (s :: ss) left)) := this
    unfold Stands at this
    cases h : firstMin (sumW w (s :: ss)) (allL w (s :: ss) left) with
    | none => rw [h] at this; exact this
    | some l => rw [h] at this; exact this
end Go.Proofs.Ytokendenofbnhaa
