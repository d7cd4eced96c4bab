/- The span that lacks room; the hours backwards. No program here. -/
import Derived.Test.YtokendenofbnhaaPlain14
namespace Go.Proofs.Ytokendenofbnhaa
/-- By how much more the streets within a span want than there is room. -/
def wants (ss : List Str) (lo hi : Int) : Nat := ss.countP fun s => decide (lo ≤ s.frm) && decide (s.to ≤ hi)
def roomIn (rm : List Int) (lo hi : Nat) : Int := ((rm.drop lo).take (hi + 1 - lo)).sum
def lacksB (r : Ros) (lo hi : Nat) : Bool := decide (roomIn r.room lo hi < (wants r.strs lo hi : Int))
/-- What 'Lack' answers. -/
def LackIs (r : Ros) (res : (Int × Int) × Int) : Prop :=
  (∃ lo hi : Nat, lo ≤ hi ∧ hi < r.room.length ∧ res = (((lo : Int), (hi : Int)), 0) ∧ lacksB r lo hi = true ∧ (∀ x : Nat, lo < x → x ≤ hi → lacksB r x hi = false) ∧ ∀ y : Nat, y < hi → ∀ x : Nat, x ≤ y → lacksB r x y = false) ∨
  (res = ((0, 0), 3) ∧ ∀ y : Nat, y < r.room.length → ∀ x : Nat, x ≤ y → lacksB r x y = false)
theorem LackIs.eq {r o : Ros} (hn : o.room.length = r.room.length) (hl : ∀ lo hi : Nat, lo ≤ hi → hi < r.room.length → lacksB o lo hi = lacksB r lo hi) {a b : (Int × Int) × Int} (ha : LackIs r a) (hb : LackIs o b) : a = b := by
  rcases ha with ⟨lo, hi, h1, h2, rfl, h3, h4, h5⟩ | ⟨rfl, h5⟩
  · rcases hb with ⟨lo', hi', k1, k2, rfl, k3, k4, k5⟩ | ⟨rfl, k5⟩
    · have e1 : hi = hi' := by
        rcases Nat.lt_trichotomy hi hi' with e | e | e
        · have := k5 hi e lo h1
          rw [hl lo hi h1 h2, h3] at this
          cases this
        · exact e
        · have := h5 hi' e lo' k1
          rw [← hl lo' hi' k1 (by omega), k3] at this
          cases this
      subst e1
      have e2 : lo = lo' := by
        rcases Nat.lt_trichotomy lo lo' with e | e | e
        · have := h4 lo' e k1
          rw [← hl lo' hi k1 h2, k3] at this
          cases this
        · exact e
        · have := k4 lo e h1
          rw [hl lo hi h1 h2, h3] at this
          cases this
      rw [e2]
    · have := k5 hi (by omega) lo h1
      rw [hl lo hi h1 h2, h3] at this
      cases this
  · rcases hb with ⟨lo', hi', k1, k2, rfl, k3, k4, k5⟩ | ⟨rfl, k5⟩
    · have := h5 hi' (by omega) lo' k1
      rw [← hl lo' hi' k1 (by omega), k3] at this
      cases this
    · rfl
theorem LackIs.code {r : Ros} {a : (Int × Int) × Int} (h : LackIs r a) : (a.2 = 0 ∧ ∃ lo hi : Nat, lo ≤ hi ∧ hi < r.room.length ∧ lacksB r lo hi = true) ∨ (a.2 = 3 ∧ ∀ hi : Nat, hi < r.room.length → ∀ lo : Nat, lo ≤ hi → lacksB r lo hi = false) := by
  rcases h with ⟨lo, hi, h1, h2, rfl, h3, h4, h5⟩ | ⟨rfl, h5⟩
  · exact .inl ⟨rfl, lo, hi, h1, h2, h3⟩
  · exact .inr ⟨rfl, h5⟩
theorem lacks_rot (r : Ros) (k : Nat) (lo hi : Nat) : lacksB (rotR r k) lo hi = lacksB r lo hi := by
  unfold lacksB wants rotR rotL
  simp only
  rw [List.countP_append, Nat.add_comm, ← List.countP_append, List.take_append_drop]

/-! The hours backwards. -/
def backS (n : Int) (s : Str) : Str := ⟨if s.has = -1 then s.has else n - s.has, n - s.to, n - s.frm, s.cost⟩
def lastH (r : Ros) : Int := (r.room.length : Int) - 1
def backR (r : Ros) : Ros := ⟨r.room.reverse, r.strs.map (backS (lastH r))⟩
theorem backR_last (r : Ros) : lastH (backR r) = lastH r := by simp [lastH, backR]
theorem backS_move {n : Int} {s : Str} (h : s.has = -1 ∨ (0 ≤ s.has ∧ s.has ≤ n)) (x : Int) : moveI (backS n s) (n - x) = moveI s x := by
  unfold moveI backS
  rcases h with h | h
  · simp [h]
  · rw [if_neg (show ¬ s.has = -1 by omega)]
    simp only
    rw [if_neg (by omega), if_neg (by omega)]
    omega
theorem backS_back {n : Int} {s : Str} (h : s.has = -1 ∨ (0 ≤ s.has ∧ s.has ≤ n)) : backS n (backS n s) = s := by
  obtain ⟨a, b, c, d⟩ := s
  unfold backS
  rcases h with h | h
  · simp only at h
    subst h
    simp only [if_true, Str.mk.injEq, true_and, and_true]
    omega
  · simp only at h
    simp only [Str.mk.injEq, and_true]
    rw [if_neg (show ¬ a = -1 by omega), if_neg (show ¬ n - a = -1 by omega)]
    omega
theorem ROk.hasIn {r : Ros} (h : ROk r) {s : Str} (hs : s ∈ r.strs) : s.has = -1 ∨ (0 ≤ s.has ∧ s.has ≤ lastH r) := by
  have a := h.so s hs
  have := a.1.has0
  have := a.2.2
  unfold lastH
  omega
theorem backR_ok {r : Ros} (h : ROk r) : ROk (backR r) := by
  refine ⟨by simp [backR, h.rl], fun x hx => h.rm x (by simpa [backR] using hx), by simp [backR, h.sl], fun s hs => ?_⟩
  simp only [backR, List.mem_map] at hs
  obtain ⟨t, ht, rfl⟩ := hs
  have a := h.so t ht
  have b := h.hasIn ht
  have c := h.rl
  have e : ((backR r).room.length : Int) = lastH r + 1 := by simp [backR, lastH]
  rw [e]
  have a1 := a.1.frm0
  have a2 := a.1.ft
  have a3 := a.2.1
  have hn : lastH r = (r.room.length : Int) - 1 := rfl
  refine ⟨⟨?_, ?_, ?_, ?_, ?_, a.1.cost0, a.1.cost1⟩, ?_, ?_⟩ <;> simp only [backS]
  · split <;> omega
  · split <;> omega
  · omega
  · omega
  · omega
  · omega
  · split <;> omega
theorem backR_back {r : Ros} (h : ROk r) : backR (backR r) = r := by
  have e := backR_last r
  obtain ⟨rm, ss⟩ := r
  unfold backR at e ⊢
  simp only at e
  rw [e]
  simp only [List.reverse_reverse, List.map_map, Ros.mk.injEq, true_and]
  have hb : ∀ s ∈ ss, (backS (lastH ⟨rm, ss⟩) ∘ backS (lastH ⟨rm, ss⟩)) s = id s := fun s hs => backS_back (h.hasIn hs)
  rw [List.map_congr_left hb, List.map_id]
theorem sumW_back {w : Str → Int → Int} {n : Int} : ∀ (ss : List Str) (l : List Int), (∀ s ∈ ss, ∀ x, w (backS n s) (n - x) = w s x) → sumW w (ss.map (backS n)) (l.map (n - ·)) = sumW w ss l
  | [], _, _ => by simp [sumW]
  | _ :: _, [], _ => by simp [sumW]
  | s :: ss, x :: l, h => by
    simp only [List.map_cons, sumW]
    rw [h s (by simp), sumW_back ss l (fun t ht => h t (by simp [ht]))]
theorem at_reverse (l : List Int) (g : Nat) (h : g < l.length) : at_ l.reverse (g : Int) = at_ l ((l.length : Int) - 1 - g) := by
  unfold at_
  rw [List.getD_eq_getElem?_getD, List.getD_eq_getElem?_getD, Int.toNat_natCast, List.getElem?_reverse h]
  congr 2
  omega
theorem sim_back {r : Ros} (h : ROk r) : Sim r (backR r) (List.map (lastH r - ·)) := by
  have hmv : ∀ s ∈ r.strs, ∀ x, moveI (backS (lastH r) s) (lastH r - x) = moveI s x := fun s hs x => backS_move (h.hasIn hs) x
  refine ⟨fun l hl => ?_, fun l _ => ?_, fun l _ => ?_, fun l n _ hn => ?_⟩
  · obtain ⟨a, b⟩ := (new_iff h).1 hl
    obtain ⟨a1, a2⟩ := fit_iff.1 a
    refine (new_iff (backR_ok h)).2 ⟨fit_iff.2 ⟨by simp [backR, a1], fun i h1 h2 => ?_⟩, fun g hg => ?_⟩
    · have i1 : i < r.strs.length := by simpa [backR] using h1
      have i2 : i < l.length := by simpa using h2
      have := a2 i i1 i2
      simp only [backR, List.getElem_map, backS]
      omega
    · have e : (l.map (lastH r - ·)).count g = l.count (lastH r - g) := by
        rw [List.count_eq_countP, List.count_eq_countP, List.countP_map]
        refine List.countP_congr fun x _ => ?_
        simp only [Function.comp, beq_iff_eq]
        omega
      rw [e]
      have hn : lastH r = (r.room.length : Int) - 1 := rfl
      by_cases hgn : g ≤ lastH r
      · obtain ⟨g, rfl⟩ := Int.eq_ofNat_of_zero_le hg
        have := b (lastH r - g) (by omega)
        rw [show (backR r).room = r.room.reverse from rfl, at_reverse _ _ (by omega)]
        exact this
      · have hz : l.count (lastH r - g) = 0 := by
          rw [List.count_eq_zero]
          intro hm
          obtain ⟨i, hi, e⟩ := List.mem_iff_getElem.1 hm
          have := a2 i (by omega) hi
          have := (h.strs _ (List.getElem_mem (show i < r.strs.length by omega))).frm0
          omega
        rw [hz]
        exact ((backR_ok h).room_le g).1
  · exact sumW_back _ _ fun s hs x => by unfold stepsI; rw [hmv s hs x]; rfl
  · exact sumW_back _ _ fun s hs x => by unfold onceI; rw [hmv s hs x]
  · intro i h1 h2
    have i1 : i < r.strs.length := by simpa [backR] using h1
    have i2 : i < l.length := by simpa using h2
    simp only [backR, List.getElem_map]
    rw [hmv _ (List.getElem_mem i1)]
    exact hn i i1 i2
theorem sim_back' {r : Ros} (h : ROk r) : Sim (backR r) r (List.map (lastH r - ·)) := by
  have := sim_back (backR_ok h)
  rwa [backR_back h, backR_last] at this
theorem bound_back {r : Ros} (h : ROk r) {k : Nat} (hk : k < r.strs.length) : boundR r (k : Int) = boundR (backR r) (k : Int) := by
  have hk2 : k < (backR r).strs.length := by simpa [backR] using hk
  have hh := h.hasIn (List.getElem_mem hk)
  have hn : 0 ≤ lastH r := by
    have a := h.so _ (List.getElem_mem hk)
    have := a.1.frm0
    have := a.1.ft
    have := a.2.1
    unfold lastH
    omega
  have he : (backR r).strs[k].has = if r.strs[k].has = -1 then r.strs[k].has else lastH r - r.strs[k].has := by simp [backR, backS]
  refine bound_same (sim_back h) (sim_back' h) h (backR_ok h) hk hk2 ?_ ?_ ?_
  · rw [he]
    split <;> omega
  · intro hne l hl x hx
    refine ⟨lastH r - x, by rw [List.getElem?_map, hx]; rfl, ?_⟩
    rw [he, if_neg hne]
    omega
  · intro hne l hl x hx
    refine ⟨lastH r - x, by rw [List.getElem?_map, hx]; rfl, ?_⟩
    rw [he, if_neg hne]
    omega
theorem least_back {r : Ros} (h : ROk r) : leastR (backR r) = leastR r := by
  obtain ⟨e, hs⟩ := (sim_back h).same (sim_back' h) h (backR_ok h)
  rw [least_val h, least_val (backR_ok h), e]
  cases hsr : someR r
  · rfl
  · rw [(hs hsr).1]
theorem roomier_back {r : Ros} {k : Nat} (hk : k < r.room.length) : roomier (backR r) (r.room.length - 1 - k) 1 = backR (roomier r k 1) := by
  have hl : lastH (roomier r k 1) = lastH r := by simp [lastH, roomier]
  unfold roomier backR at *
  simp only [Ros.mk.injEq] at *
  rw [hl]
  refine ⟨?_, rfl⟩
  refine List.ext_getElem? fun i => ?_
  have e : (r.room.reverse).getD (r.room.length - 1 - k) 0 = r.room.getD k 0 := by
    rw [List.getD_eq_getElem?_getD, List.getD_eq_getElem?_getD, List.getElem?_reverse (by omega)]
    congr 2
    omega
  rw [e]
  by_cases hi : i < r.room.length
  · rw [List.getElem?_reverse (by simpa using hi), List.length_set]
    rw [List.getElem?_set, List.getElem?_set, List.length_reverse, List.getElem?_reverse hi]
    by_cases e2 : i = r.room.length - 1 - k
    · rw [if_pos e2.symm, if_pos (by omega), if_pos (by omega), if_pos (by omega)]
    · rw [if_neg (fun e' => e2 e'.symm), if_neg (by omega)]
  · rw [List.getElem?_eq_none (by simpa using hi), List.getElem?_eq_none (by simpa using hi)]
theorem give_back {r : Ros} (h : ROk r) {k : Nat} (hk : k < r.room.length) : giveR r (k : Int) = giveR (backR r) (lastH r - k) := by
  have e1 : isHour r (k : Int) = true := by unfold isHour; rw [inR_iff]; omega
  have e2 : isHour (backR r) (lastH r - k) = true := by
    have : ((backR r).room.length : Int) = r.room.length := by simp [backR]
    unfold isHour
    rw [inR_iff, this]
    unfold lastH
    omega
  have a1 : askE r (isHour r (k : Int)) = 0 := askE_zero.2 ⟨valid_iff.2 h, e1⟩
  have a2 : askE (backR r) (isHour (backR r) (lastH r - k)) = 0 := askE_zero.2 ⟨valid_iff.2 (backR_ok h), e2⟩
  have e3 : (lastH r - k).toNat = r.room.length - 1 - k := by unfold lastH; omega
  have e4 : (backR r).room.getD (r.room.length - 1 - k) 0 = r.room.getD k 0 := by
    show r.room.reverse.getD _ 0 = _
    rw [List.getD_eq_getElem?_getD, List.getD_eq_getElem?_getD, List.getElem?_reverse (by omega)]
    congr 2
    omega
  unfold giveR
  rw [if_pos a1, if_pos a2, e3, Int.toNat_natCast, e4, least_back h, roomier_back hk]
  by_cases h6 : r.room.getD k 0 = 6
  · rw [if_pos h6, if_pos h6]
  · rw [if_neg h6, if_neg h6]
    have hk6 : r.room[k] ≠ 6 := by
      rw [List.getD_eq_getElem?_getD, List.getElem?_eq_getElem hk] at h6
      exact h6
    rw [least_back (roomier_ok h hk hk6)]
theorem lacks_back {r : Ros} {lo hi : Nat} (h1 : lo ≤ hi) (h2 : hi < r.room.length) : lacksB (backR r) lo hi = lacksB r (r.room.length - 1 - hi) (r.room.length - 1 - lo) := by
  have ew : wants (backR r).strs (lo : Int) (hi : Int) = wants r.strs ((r.room.length - 1 - hi : Nat) : Int) ((r.room.length - 1 - lo : Nat) : Int) := by
    unfold wants backR
    simp only
    rw [List.countP_map]
    refine List.countP_congr fun s _ => ?_
    simp only [Function.comp, Bool.and_eq_true, decide_eq_true_eq]
    show ((lo : Int) ≤ lastH r - s.to ∧ lastH r - s.frm ≤ (hi : Int)) ↔ _
    unfold lastH
    omega
  have er : roomIn (backR r).room lo hi = roomIn r.room (r.room.length - 1 - hi) (r.room.length - 1 - lo) := by
    unfold roomIn backR
    simp only
    rw [List.drop_reverse, List.take_reverse, List.sum_reverse]
    congr 1
    rw [List.length_take, List.drop_take]
    have e1 : min (r.room.length - lo) r.room.length - (hi + 1 - lo) = r.room.length - 1 - hi := by omega
    have e2 : r.room.length - lo - (r.room.length - 1 - hi) = r.room.length - 1 - lo + 1 - (r.room.length - 1 - hi) := by omega
    rw [e1, e2]
  unfold lacksB
  rw [ew, er]
theorem lack_back {r : Ros} {a b : (Int × Int) × Int} (ha : LackIs r a) (hb : LackIs (backR r) b) : a.2 = b.2 := by
  have hl : (backR r).room.length = r.room.length := by simp [backR]
  rcases ha.code with ⟨h1, lo, hi, h2, h3, h4⟩ | ⟨h1, h2⟩
  · rcases hb.code with ⟨k1, _⟩ | ⟨k1, k2⟩
    · rw [h1, k1]
    · have := k2 (r.room.length - 1 - lo) (by omega) (r.room.length - 1 - hi) (by omega)
      rw [lacks_back (by omega) (by omega)] at this
      rw [show r.room.length - 1 - (r.room.length - 1 - lo) = lo by omega, show r.room.length - 1 - (r.room.length - 1 - hi) = hi by omega, h4] at this
      cases this
  · rcases hb.code with ⟨k1, lo, hi, k2, k3, k4⟩ | ⟨k1, _⟩
    · rw [lacks_back k2 (by omega)] at k4
      rw [h2 _ (by omega) _ (by omega)] at k4
      cases k4
    · rw [h1, k1]
end Go.Proofs.Ytokendenofbnhaa
