/- Rosters and divisions: a town of buckets in which each house is a street and each well an hour. No program here; no conditions. -/
import Derived.Test.YtldcehhhndlhdaaGreatDoorC2
import Derived.Test.YtldcehhhndlhdaaGreatDoorC5
import Derived.Test.YtldcehhhndlhdaaGreatDoorRows
import Derived.WalkKit
import Derived.WalkSpells
import Derived.WalkLawsBesides
import Derived.Handy
import Derived.BigQuiet
import Derived.Lib.Hide
import Derived.Lib.QuietBelow
import Derived.Deep.RegionHeld3
import Derived.Maps.AppendAt
import Derived.Lib.LazyBuf
namespace Go.Proofs.YtldcehhhndlhdaaGreatDoor.Bk
/-- The town t is the roster r's. -/
structure RB (r : Hr.Ros) (t : BT) : Prop where
  nH : t.nH = r.strs.length
  nW : t.nW = r.room.length
  one : ∀ h, h < t.nH → t.hs h = 1
  room : ∀ w, w < t.nW → t.ws w = Hr.at_ r.room (w : Int)
  ok : BOk t
  fit : ∀ j, j < t.m → ∀ (h : t.hh j < r.strs.length), r.strs[t.hh j].frm ≤ (t.ww j : Int) ∧ (t.ww j : Int) ≤ r.strs[t.hh j].to
  all : ∀ h (hh : h < r.strs.length) (x : Nat), r.strs[h].frm ≤ (x : Int) → (x : Int) ≤ r.strs[h].to → ∃ j, j < t.m ∧ t.hh j = h ∧ t.ww j = x
  inj : ∀ i j, i < t.m → j < t.m → t.hh i = t.hh j → t.ww i = t.ww j → i = j
theorem sumR_count (l : List Int) (g : Int) : ∀ n, n ≤ l.length → sumR n (fun i => if l.getD i 0 = g then 1 else 0) = ((l.take n).count g : Int)
  | 0, _ => by simp [sumR]
  | n + 1, h => by
    show sumR n _ + (if l.getD n 0 = g then 1 else 0) = _
    rw [sumR_count l g n (by omega), List.take_add_one, List.getD_eq_getElem?_getD, List.getElem?_eq_getElem (show n < l.length by omega), Option.getD_some, Option.toList_some, List.count_append, List.count_singleton]
    by_cases e : l[n] = g
    · rw [if_pos e, if_pos (by simpa using e)]; omega
    · rw [if_neg e, if_neg (by simpa using e)]; omega
theorem sumR_count_all (l : List Int) (g : Int) : sumR l.length (fun i => if l.getD i 0 = g then 1 else 0) = (l.count g : Int) := by
  rw [sumR_count l g _ (Nat.le_refl _), List.take_length]
theorem sumR_swap (f : Nat → Nat → Int) (n : Nat) : ∀ m, sumR m (fun j => sumR n fun i => f i j) = sumR n fun i => sumR m fun j => f i j
  | 0 => by
    show 0 = _
    exact (sumR_zero n).symm
  | m + 1 => by
    show sumR m _ + _ = sumR n fun i => sumR m (fun j => f i j) + f i m
    rw [sumR_add, sumR_swap f n m]
/-- A roster as a division. -/
def pickD (t : BT) (l : List Int) (i : Nat) : Int := if l.getD (t.hh i) 0 = (t.ww i : Int) then 1 else 0
section
variable {r : Hr.Ros} {t : BT}
/-- A house draws once what is asked of the way that its roster names. -/
theorem draw_pick (hr : Hr.ROk r) (hb : RB r t) {l : List Int} (hf : Hr.fitB r.strs l = true) (x : Nat → Int) {h : Nat} (hh : h < t.nH) :
    drawH t (fun i => if l.getD (t.hh i) 0 = (t.ww i : Int) then x (t.ww i) else 0) h = x (l.getD h 0).toNat := by
  obtain ⟨h1, h2⟩ := Hr.fit_iff.1 hf
  have hh' : h < r.strs.length := by rw [← hb.nH]; exact hh
  have h3 := h2 h hh' (by omega)
  have h0 := (hr.strs _ (List.getElem_mem hh')).frm0
  have e : l.getD h 0 = l[h] := by rw [List.getD_eq_getElem?_getD, List.getElem?_eq_getElem (show h < l.length by omega), Option.getD_some]
  obtain ⟨g, hg⟩ := Int.eq_ofNat_of_zero_le (show 0 ≤ l[h] by omega)
  obtain ⟨j, hj, e1, e2⟩ := hb.all h hh' g (by rw [← hg]; exact h3.1) (by rw [← hg]; exact h3.2)
  unfold drawH
  rw [sumR_congr (g := fun i => if j = i then x g else 0) (fun i hi => ?_), sumR_one _ hj, e, hg]
  · simp
  · dsimp only
    by_cases ei : t.hh i = h
    · rw [if_pos ei, ei, e, hg]
      by_cases ew : t.ww i = g
      · have : j = i := hb.inj j i hj hi (by rw [e1, ei]) (by rw [e2, ew])
        rw [if_pos (by rw [ew]), if_pos this, ew]
      · rw [if_neg (fun h => ew (by omega)), if_neg (fun h => ew (by rw [← h, e2]))]
    · rw [if_neg ei, if_neg (fun h => ei (by rw [← h, e1]))]
theorem give_sum (hk : BOk t) (d : Nat → Int) (w : Nat) : giveW t d w = sumR t.nH fun h => drawH t (fun i => if t.ww i = w then d i else 0) h := by
  have := sum_draws t hk (fun i => if t.ww i = w then d i else 0) (fun _ => 1)
  simp only [Int.mul_one] at this
  rw [this]
  rfl
theorem pick_div (hr : Hr.ROk r) (hb : RB r t) {l : List Int} (hl : Hr.newB r l = true) : Div t (pickD t l) ∧ ∀ h, h < t.nH → lackH t (pickD t l) h = 0 := by
  obtain ⟨hf, hc⟩ := (Hr.new_iff hr).1 hl
  obtain ⟨h1, h2⟩ := Hr.fit_iff.1 hf
  have hd : ∀ h, h < t.nH → lackH t (pickD t l) h = 0 := fun h hh => by
    have := draw_pick hr hb hf (fun _ => 1) hh
    unfold lackH
    rw [hb.one h hh, show pickD t l = fun i => if l.getD (t.hh i) 0 = (t.ww i : Int) then 1 else 0 from rfl, this]
    omega
  refine ⟨⟨fun i _ => by unfold pickD; split <;> omega, fun h hh => by rw [hd h hh]; exact Int.le_refl _, fun w hw => ?_⟩, hd⟩
  unfold hasW
  rw [hb.room w hw, give_sum hb.ok]
  have e : sumR t.nH (fun h => drawH t (fun i => if t.ww i = w then pickD t l i else 0) h) = sumR t.nH fun h => if l.getD h 0 = (w : Int) then 1 else 0 := by
    refine sumR_congr fun h hh => ?_
    have := draw_pick hr hb hf (fun g => if g = w then 1 else 0) hh
    have e2 : (fun i => if t.ww i = w then pickD t l i else 0) = fun i => if l.getD (t.hh i) 0 = (t.ww i : Int) then (if t.ww i = w then 1 else 0) else 0 := by
      funext i
      unfold pickD
      split <;> split <;> rfl
    rw [e2, this]
    have hh' : h < r.strs.length := by rw [← hb.nH]; exact hh
    have h3 := h2 h hh' (by omega)
    have h0 := (hr.strs _ (List.getElem_mem hh')).frm0
    have e : l.getD h 0 = l[h] := by rw [List.getD_eq_getElem?_getD, List.getElem?_eq_getElem (show h < l.length by omega), Option.getD_some]
    rw [e]
    by_cases ew : l[h] = (w : Int)
    · rw [if_pos ew, if_pos (by omega)]
    · rw [if_neg ew, if_neg (by omega)]
  rw [e, hb.nH, ← h1, sumR_count_all]
  have := hc (w : Int) (by omega)
  omega
/-- A division that lets nobody lack anything names a roster. -/
theorem new_of_div (hr : Hr.ROk r) (hb : RB r t) {d : Nat → Int} (hd : Div t d) (h0 : ∀ h, h < t.nH → lackH t d h = 0) : ∃ l, Hr.newB r l = true := by
  have hex : ∀ h, h < t.nH → ∃ j, j < t.m ∧ t.hh j = h ∧ 0 < d j := fun h hh => by
    refine Classical.byContradiction fun hn => ?_
    have h1 := h0 h hh
    unfold lackH at h1
    rw [hb.one h hh] at h1
    have : drawH t d h = sumR t.m fun _ => 0 := by
      unfold drawH
      refine sumR_congr fun i hi => ?_
      by_cases e : t.hh i = h
      · rw [if_pos e]
        have := hd.pos i hi
        refine Int.le_antisymm (Int.not_lt.1 fun hlt => hn ⟨i, hi, e, hlt⟩) this
      · rw [if_neg e]
    rw [this, sumR_zero] at h1
    omega
  obtain ⟨F, hF⟩ : ∃ F : Fin t.nH → Nat, ∀ h, F h < t.m ∧ t.hh (F h) = h.1 ∧ 0 < d (F h) := ⟨fun h => (hex h.1 h.2).choose, fun h => (hex h.1 h.2).choose_spec⟩
  refine ⟨List.ofFn fun h => (t.ww (F h) : Int), (Hr.new_iff hr).2 ⟨Hr.fit_iff.2 ⟨by rw [List.length_ofFn, hb.nH], fun i h1 h2 => ?_⟩, fun g hg => ?_⟩⟩
  · rw [List.getElem_ofFn]
    have hi : i < t.nH := by rw [hb.nH]; exact h1
    obtain ⟨a1, a2, a3⟩ := hF ⟨i, hi⟩
    have := hb.fit (F ⟨i, hi⟩) a1 (by rw [a2]; exact h1)
    simp only [a2] at this
    exact this
  · obtain ⟨w, rfl⟩ := Int.eq_ofNat_of_zero_le hg
    obtain ⟨l, hl⟩ : ∃ l, (List.ofFn fun h => (t.ww (F h) : Int)) = l := ⟨_, rfl⟩
    have hll : l.length = t.nH := by rw [← hl, List.length_ofFn]
    have hlg : ∀ h (hh : h < t.nH), l.getD h 0 = (t.ww (F ⟨h, hh⟩) : Int) := fun h hh => by
      rw [← hl, List.getD_eq_getElem?_getD, List.getElem?_ofFn, dif_pos hh]
      rfl
    rw [hl, ← sumR_count_all, hll]
    have hle : sumR t.nH (fun i => if l.getD i 0 = (w : Int) then 1 else 0) ≤ giveW t d w := by
      rw [give_sum hb.ok]
      refine sumR_le fun h hh => ?_
      obtain ⟨a1, a2, a3⟩ := hF ⟨h, hh⟩
      have hnn : ∀ i, i < t.m → 0 ≤ (if t.hh i = h then (if t.ww i = w then d i else 0) else 0) := fun i hi => by
        have := hd.pos i hi
        split
        · split <;> omega
        · omega
      rw [hlg h hh]
      by_cases e : t.ww (F ⟨h, hh⟩) = w
      · rw [if_pos (by rw [e])]
        have := sumR_get hnn a1
        rw [if_pos a2, if_pos e] at this
        exact Int.le_trans (show 1 ≤ d (F ⟨h, hh⟩) by omega) this
      · rw [if_neg (fun h => e (by omega))]
        exact sumR_nonneg hnn
    by_cases hw : w < t.nW
    · have h1 := hd.has w hw
      unfold hasW at h1
      rw [hb.room w hw] at h1
      exact Int.le_trans hle (by omega)
    · have e : sumR t.nH (fun i => if l.getD i 0 = (w : Int) then 1 else 0) = sumR t.nH fun _ => 0 := sumR_congr fun h hh => by
        rw [hlg h hh, if_neg]
        obtain ⟨a1, -, -⟩ := hF ⟨h, hh⟩
        have := hb.ok.ww _ a1
        omega
      rw [e, sumR_zero]
      exact (hr.room_le _).1
theorem some_iff (hr : Hr.ROk r) (hb : RB r t) {d : Nat → Int} (hd : Best t d) : Hr.someR r = true ↔ ∀ h, h < t.nH → lackH t d h = 0 := by
  constructor
  · intro hs
    obtain ⟨l, -, hl, -⟩ := Hr.roster_said hr hs
    obtain ⟨h1, h2⟩ := pick_div hr hb hl
    exact best_zero hd h1 h2
  · intro h0
    obtain ⟨l, hl⟩ := new_of_div hr hb hd.div h0
    exact Hr.some_of hr hl
/-- A group of houses is short: they are more than what there is for them. -/
def adj (t : BT) (S : Nat → Bool) (w : Nat) : Bool := (List.range t.m).any fun j => t.ww j == w && S (t.hh j)
def wantG (t : BT) (S : Nat → Bool) : Int := sumR t.nH fun h => if S h then t.hs h else 0
def haveG (t : BT) (S : Nat → Bool) : Int := sumR t.nW fun w => if adj t S w then t.ws w else 0
theorem no_short (hr : Hr.ROk r) (hb : RB r t) (hs : Hr.someR r = true) (S : Nat → Bool) : wantG t S ≤ haveG t S := by
  obtain ⟨l, -, hl, -⟩ := Hr.roster_said hr hs
  obtain ⟨hf, hc⟩ := (Hr.new_iff hr).1 hl
  obtain ⟨h1, h2⟩ := Hr.fit_iff.1 hf
  have hle : wantG t S ≤ sumR t.nH fun h => sumR t.nW fun w => if adj t S w then (if l.getD h 0 = (w : Int) then 1 else 0) else 0 := by
    refine sumR_le fun h hh => ?_
    have hnn : ∀ w, w < t.nW → 0 ≤ (if adj t S w then (if l.getD h 0 = (w : Int) then (1 : Int) else 0) else 0) := fun w _ => by
      split
      · split <;> omega
      · omega
    by_cases e : S h = true
    · rw [if_pos e, hb.one h hh]
      have hh' : h < r.strs.length := by rw [← hb.nH]; exact hh
      have h3 := h2 h hh' (by omega)
      have h0 := (hr.strs _ (List.getElem_mem hh')).frm0
      have el : l.getD h 0 = l[h] := by rw [List.getD_eq_getElem?_getD, List.getElem?_eq_getElem (show h < l.length by omega), Option.getD_some]
      obtain ⟨g, hg⟩ := Int.eq_ofNat_of_zero_le (show 0 ≤ l[h] by omega)
      obtain ⟨j, hj, e1, e2⟩ := hb.all h hh' g (by rw [← hg]; exact h3.1) (by rw [← hg]; exact h3.2)
      have := sumR_get (j := g) hnn (by rw [← e2]; exact hb.ok.ww j hj)
      rw [if_pos (show adj t S g = true from List.any_eq_true.2 ⟨j, List.mem_range.2 hj, by simp [e2, e1, e]⟩), if_pos (by rw [el, hg])] at this
      exact this
    · rw [if_neg e]
      exact sumR_nonneg hnn
  refine Int.le_trans hle ?_
  rw [← sumR_swap]
  refine sumR_le fun w hw => ?_
  by_cases e : adj t S w = true
  · rw [if_pos e, hb.room w hw, sumR_congr (g := fun i => if l.getD i 0 = (w : Int) then 1 else 0) (fun i _ => by rw [if_pos e]), hb.nH, ← h1, sumR_count_all]
    exact hc _ (by omega)
  · rw [if_neg e, sumR_congr (g := fun _ => 0) (fun i _ => by rw [if_neg e]), sumR_zero]
    exact Int.le_refl _
theorem sum_wants (ss : List Hr.Str) (lo hi : Int) : sumR ss.length (fun h => if (decide (lo ≤ (ss.getD h ⟨0, 0, 0, 0⟩).frm) && decide ((ss.getD h ⟨0, 0, 0, 0⟩).to ≤ hi)) = true then 1 else 0) = (Hr.wants ss lo hi : Int) := by
  have key : ∀ n, n ≤ ss.length → sumR n (fun h => if (decide (lo ≤ (ss.getD h ⟨0, 0, 0, 0⟩).frm) && decide ((ss.getD h ⟨0, 0, 0, 0⟩).to ≤ hi)) = true then 1 else 0) = (Hr.wants (ss.take n) lo hi : Int) := by
    intro n
    induction n with
    | zero => intro _; simp [sumR, Hr.wants]
    | succ n ih =>
      intro h
      show sumR n _ + _ = _
      dsimp only
      rw [ih (by omega), List.take_add_one, List.getElem?_eq_getElem (show n < ss.length by omega), Option.toList_some]
      unfold Hr.wants
      rw [List.countP_append, List.countP_singleton, List.getD_eq_getElem?_getD, List.getElem?_eq_getElem (show n < ss.length by omega), Option.getD_some]
      split <;> omega
  have := key ss.length (Nat.le_refl _)
  rw [List.take_length] at this
  exact this
theorem sum_room (rm : List Int) (lo : Nat) : ∀ n, n ≤ rm.length → sumR n (fun w => if lo ≤ w then Hr.at_ rm (w : Int) else 0) = ((rm.drop lo).take (n - lo)).sum
  | 0, _ => by simp [sumR]
  | n + 1, h => by
    show sumR n _ + _ = _
    dsimp only
    rw [sum_room rm lo n (by omega)]
    by_cases e : lo ≤ n
    · rw [if_pos e, show n + 1 - lo = (n - lo) + 1 by omega, Hr.sum_succ (by omega), show lo + (n - lo) = n by omega]
    · rw [if_neg e, show n + 1 - lo = 0 by omega, show n - lo = 0 by omega]
      simp
theorem some_short (hr : Hr.ROk r) (hb : RB r t) (hs : Hr.someR r = false) : ∃ S : Nat → Bool, haveG t S < wantG t S := by
  have hn : ¬ ∀ lo hi : Nat, lo ≤ hi → hi < r.room.length → Hr.lacksB r lo hi = false := fun h => by
    have := (Hr.hall hr).2 h
    rw [hs] at this
    exact absurd this (by simp)
  obtain ⟨lo, hn⟩ := Classical.not_forall.1 hn
  obtain ⟨hi, hn⟩ := Classical.not_forall.1 hn
  obtain ⟨hlh, hn⟩ := Classical.not_forall.1 hn
  obtain ⟨hlt, hn⟩ := Classical.not_forall.1 hn
  have hl : Hr.lacksB r lo hi = true := by cases h : Hr.lacksB r lo hi with
    | true => rfl
    | false => exact absurd h hn
  unfold Hr.lacksB at hl
  have hl := of_decide_eq_true hl
  refine ⟨fun h => decide ((lo : Int) ≤ (r.strs.getD h ⟨0, 0, 0, 0⟩).frm) && decide ((r.strs.getD h ⟨0, 0, 0, 0⟩).to ≤ (hi : Int)), ?_⟩
  have e1 : wantG t (fun h => decide ((lo : Int) ≤ (r.strs.getD h ⟨0, 0, 0, 0⟩).frm) && decide ((r.strs.getD h ⟨0, 0, 0, 0⟩).to ≤ (hi : Int))) = (Hr.wants r.strs lo hi : Int) := by
    rw [← sum_wants, ← hb.nH]
    exact sumR_congr fun h hh => by rw [hb.one h hh]
  rw [e1]
  refine Int.lt_of_le_of_lt ?_ hl
  have e2 : Hr.roomIn r.room lo hi = sumR (hi + 1) fun w => if lo ≤ w then Hr.at_ r.room (w : Int) else 0 := by
    rw [sum_room _ _ _ (by omega)]
    rfl
  have hnn : ∀ w : Nat, 0 ≤ (if lo ≤ w then Hr.at_ r.room (w : Int) else 0) := fun w => by
    have := (hr.room_le (w : Int)).1
    split <;> omega
  have key : ∀ n, n ≤ t.nW → sumR n (fun w => if adj t (fun h => decide ((lo : Int) ≤ (r.strs.getD h ⟨0, 0, 0, 0⟩).frm) && decide ((r.strs.getD h ⟨0, 0, 0, 0⟩).to ≤ (hi : Int))) w then t.ws w else 0) ≤ sumR (if n ≤ hi + 1 then n else hi + 1) fun w => if lo ≤ w then Hr.at_ r.room (w : Int) else 0 := by
    intro n
    induction n with
    | zero => intro _; simp [sumR]
    | succ n ih =>
      intro hnW
      have ih := ih (by omega)
      have hw : (if adj t (fun h => decide ((lo : Int) ≤ (r.strs.getD h ⟨0, 0, 0, 0⟩).frm) && decide ((r.strs.getD h ⟨0, 0, 0, 0⟩).to ≤ (hi : Int))) n then t.ws n else 0) ≤ if lo ≤ n ∧ n ≤ hi then Hr.at_ r.room (n : Int) else 0 := by
        split
        · rename_i ha
          obtain ⟨j, hj, hb2⟩ := List.any_eq_true.1 ha
          simp only [Bool.and_eq_true, beq_iff_eq, decide_eq_true_eq] at hb2
          obtain ⟨e, a1, a2⟩ := hb2
          have hj := List.mem_range.1 hj
          have hhj : t.hh j < r.strs.length := by rw [← hb.nH]; exact hb.ok.hh j hj
          rw [List.getD_eq_getElem?_getD, List.getElem?_eq_getElem hhj, Option.getD_some] at a1 a2
          have := hb.fit j hj hhj
          rw [if_pos (by omega), hb.room n (by omega)]
          exact Int.le_refl _
        · split
          · exact (hr.room_le (n : Int)).1
          · exact Int.le_refl _
      show sumR n _ + _ ≤ _
      dsimp only
      by_cases e : n + 1 ≤ hi + 1
      · rw [if_pos (show n ≤ hi + 1 by omega)] at ih
        rw [if_pos e]
        show _ ≤ sumR n _ + _
        dsimp only
        by_cases e3 : lo ≤ n
        · rw [if_pos (show lo ≤ n ∧ n ≤ hi from ⟨e3, by omega⟩)] at hw
          rw [if_pos e3]
          omega
        · rw [if_neg (show ¬ (lo ≤ n ∧ n ≤ hi) from fun h => e3 h.1)] at hw
          rw [if_neg e3]
          omega
      · rw [if_neg e]
        rw [if_neg (show ¬ (lo ≤ n ∧ n ≤ hi) from fun h => e (by omega))] at hw
        by_cases e4 : n ≤ hi + 1
        · obtain rfl : n = hi + 1 := by omega
          rw [if_pos (Nat.le_refl _)] at ih
          omega
        · rw [if_neg e4] at ih
          omega
  have := key t.nW (Nat.le_refl _)
  unfold haveG
  rw [e2]
  refine Int.le_trans this ?_
  by_cases e : t.nW ≤ hi + 1
  · rw [if_pos e, show t.nW = hi + 1 by have := hb.nW; omega]
    exact Int.le_refl _
  · rw [if_neg e]
    exact Int.le_refl _
end
end Go.Proofs.YtldcehhhndlhdaaGreatDoor.Bk
/- Memory: readings of slices in memory, boxes, regions that draw; appends whatever the source. No function here; no conditions. -/
namespace Go.Proofs.YtldcehhhndlhdaaGreatDoor
open Go.RowKit Go.Sort

abbrev I (n : Int) : Value := .int .i64 n

/-- The slice value 'v' holds the cells xs, n elements of 'size' cells each. -/
def Reads (w : World) (size : Nat) (v : Value) (n : Nat) (xs : List Value) : Prop :=
  xs.length = n * size ∧ ∃ A c, v = .slice A n c ∧ n ≤ c ∧ c ≤ 9223372036854775807 ∧ (0 < n → ∃ b o, A = some ⟨b, o, none⟩ ∧ ∀ j u, xs[j]? = some u → w.cell? ⟨b, o + j, none⟩ = some u)

theorem Reads.below {w w' : World} {size n : Nat} {v : Value} {xs : List Value} (h : Reads w size v n xs) (hb : Below w.heap.size w w') : Reads w' size v n xs := by
  obtain ⟨h1, A, c, h2, h3, h4, h5⟩ := h
  refine ⟨h1, A, c, h2, h3, h4, fun hn => ?_⟩
  obtain ⟨b, o, rfl, hc⟩ := h5 hn
  refine ⟨b, o, rfl, fun j u hu => ?_⟩
  have := hc j u hu
  rw [hb.cell (World.block_lt_of_cell? w _ this)]
  exact this

/-- Behind a world whose old blocks stand: all old cells and marks. -/
theorem bcell {B : Nat} {W w1 : World} (hb : Below B W w1) : (∀ b o, b < B → w1.cell? ⟨b, o, none⟩ = W.cell? ⟨b, o, none⟩) ∧ (∀ b o, b < B → w1.frozen? ⟨b, o, none⟩ = W.frozen? ⟨b, o, none⟩) :=
  ⟨fun b o h => hb.cell (p := ⟨b, o, none⟩) h, fun b o h => hb.frozen (p := ⟨b, o, none⟩) h⟩

theorem bto {a b c : World} (h : Below a.heap.size a b) (k : Below b.heap.size b c) : Below a.heap.size a c :=
  h.trans (k.mono h.size)

/-- A reading of integers, as a list of integers. -/
def Ints (w : World) (v : Value) (xs : List Int) : Prop := Reads w 1 v xs.length (xs.map I)

theorem Ints.below {w w' : World} {v : Value} {xs : List Int} (h : Ints w v xs) (hb : Below w.heap.size w w') : Ints w' v xs := Reads.below h hb

/-- What an 'Ints' gives: the slice's form, and each cell. -/
theorem Ints.open_ {w : World} {v : Value} {xs : List Int} (h : Ints w v xs) :
    ∃ A c, v = .slice A xs.length c ∧ xs.length ≤ c ∧ c ≤ 9223372036854775807 ∧ (0 < xs.length → ∃ b o, A = some ⟨b, o, none⟩ ∧ b < w.heap.size ∧ ∀ j (hj : j < xs.length), w.cell? ⟨b, o + j, none⟩ = some (I xs[j])) := by
  obtain ⟨h1, A, c, h2, h3, h4, h5⟩ := h
  refine ⟨A, c, h2, h3, h4, fun hn => ?_⟩
  obtain ⟨b, o, h6, h7⟩ := h5 hn
  have hc : ∀ j (hj : j < xs.length), w.cell? ⟨b, o + j, none⟩ = some (I xs[j]) := fun j hj => h7 j _ (by simp [List.getElem?_eq_getElem hj])
  exact ⟨b, o, h6, World.block_lt_of_cell? w _ (hc 0 hn), hc⟩

/-- The call returns some natural number, and the world is as it was, but for new blocks. -/
def RetNat (w : World) (e : Ending) (w' : World) : Prop := ∃ k : Nat, e = .returned (I k) ∧ Below w.heap.size w w'
theorem ret_int {k : IntKind} {a b : Int} (h : a = b) : Ending.returned (.int k a) = .returned (.int k b) := by rw [h]

theorem box_cell (w : World) (cs : Array Value) (T : TypeId) (i : Nat) {v : Value} (h : cs[i]? = some v) : (w.alloc (.cells cs T)).cell? ⟨w.heap.size, i, none⟩ = some v := by
  simpa [go_sem] using h
theorem box_old (w : World) (ob : Obj) {b o : Nat} {v : Value} (h : w.cell? ⟨b, o, none⟩ = some v) : (w.alloc ob).cell? ⟨b, o, none⟩ = some v := by
  rw [World.cell?_alloc_lt w ob _ (World.block_lt_of_cell? w _ h)]; exact h

/-- A region that draws its order, whose operations only read and whose callees leave what was there as it was: walked once, in the text's order; behind it the world is a letter. -/
theorem wp_region_ext {P : Program} {id : Nat} {Q : Exit → Act → World → Prop} {a : Act} {w : World} {l : List Oper} (hm : P.follows .mixedOrders = true) (hB : Region.lexB .any l.toArray = true)
    (h : wpQuiet P l.toArray (fun w' => ∃ p : Regrown, w' = grow (redrawn w p.d) p.os) (fun a' => ∀ w', Below w.heap.size w w' → Q .normal a' w') l a) : (Code.region id l.toArray true).wp P Q a w :=
  wp_region_quiet (C := fun w' => ∃ p : Regrown, w' = grow (redrawn w p.d) p.os) hm hB ⟨⟨w.drawn + 1, #[]⟩, by rw [grow_empty]; rfl⟩
    (by
      have key : ∀ (rest : List Oper) (a : Act), wpQuiet P l.toArray (fun w' => ∃ p : Regrown, w' = grow (redrawn w p.d) p.os) (fun a' => ∀ w', Below w.heap.size w w' → Q .normal a' w') rest a →
          wpQuiet P l.toArray (fun w' => ∃ p : Regrown, w' = grow (redrawn w p.d) p.os) (fun a' => ∀ w', (∃ p : Regrown, w' = grow (redrawn w p.d) p.os) → Q .normal a' w') rest a := by
        intro rest
        induction rest with
        | nil => intro a h w' ⟨p, hp⟩; exact h w' (hp ▸ below_regrown w p.d p.os)
        | cons o rest ih =>
          intro a h
          unfold wpQuiet at h ⊢
          split
          · rename_i hw
            rw [if_pos hw] at h
            exact Oper.quiet_mono (fun a h => ih a h) h
          · rename_i hw
            rw [if_neg hw] at h
            exact ih _ h
      simpa using key l a h)

/-- A contract, met in such a region. -/
theorem ext_call {P : Program} {f : FuncId} {args : Array Value} {w : World} {v : Value}
    (h : ∀ W, Below w.heap.size w W → Calls P f args W fun e w' => e = .returned v ∧ Below W.heap.size W w') :
    ∀ d os, Calls P f args (grow (redrawn w d) os) fun e w'' => e = .returned v ∧ ∃ p : Regrown, w'' = grow (redrawn w p.d) p.os :=
  fun d os => Calls.regrown_of (h _ (below_regrown w d os))

theorem keep_cell {W w1 : World} (hb : Below W.heap.size W w1) {b o : Nat} {v : Value} (h : W.cell? ⟨b, o, none⟩ = some v) : w1.cell? ⟨b, o, none⟩ = some v := by
  rw [hb.cell (p := ⟨b, o, none⟩) (World.block_lt_of_cell? W _ h)]; exact h

/-- A row of the call's own reads as a list of integers. -/
theorem Ints.of_own {w : World} {base e : Nat} {v : Value} {n : Nat} {xs : List Int} (h : w.ownsRow base e 1 v n (xs.map I)) : Ints w v xs := by
  have hl : xs.length = n := by have := h.1; simpa using this
  subst hl
  refine ⟨by simp, ?_⟩
  rcases h.2 with ⟨rfl, h0⟩ | ⟨g, cap, cur, rfl, hb, hg, h1, h2, h3, h4⟩
  · exact ⟨none, 0, by rw [h0], by omega, by omega, fun h => by omega⟩
  · refine ⟨some ⟨g, 0, none⟩, cap, rfl, h1, h2, fun hn => ⟨g, 0, rfl, fun j u hu => ?_⟩⟩
    have := h.cells (g := g) rfl j u hu
    have e : (⟨g, 0, none⟩ : Addr).add j = ⟨g, 0 + j, none⟩ := by unfold Addr.add; split <;> simp_all
    rwa [e] at this

theorem run_append_nil' {P : Program} (w : World) (base : Nat) (t ty e : TypeId) (i : TypeInfo) (size : Nat) (ht : P.underlying t = some (.slice e)) (hi : P.info? e = some i)
    (v : Value) (n : Nat) (xs : List Value) (hown : w.ownsRow base e size v n xs) (c : Nat) : (Builtin.append_ #[t, t] ty #[v, .slice none 0 c]).run P w = .ok v w := by
  rcases hown.2 with ⟨rfl, rfl⟩ | ⟨g, cap, cur, rfl, _, _, hnc, _⟩
  · simp [Builtin.append_, run_underlying ht, sizeOf, typeInfo, hi, Builtin.lenOf, Builtin.firstCells]
  · simp [Builtin.append_, run_underlying ht, sizeOf, typeInfo, hi, Builtin.lenOf, Builtin.firstCells, hnc, storeCells]

theorem add_plain (b o j : Nat) : (⟨b, o, none⟩ : Addr).add j = ⟨b, o + j, none⟩ := by unfold Addr.add; split <;> simp_all

theorem run_append_src {P : Program} (w : World) (base : Nat) (t ty e : TypeId) (i : TypeInfo) (z : Value) (size bytes : Nat) (ht : P.underlying t = some (.slice e)) (hi : P.info? e = some i) (hz : i.zero = some z)
    (hsize : i.size = size) (hby : i.bytes = bytes) (hzs : z.cells.size = size) (hsz : 0 < size)
    (v : Value) (n : Nat) (xs : List Value) (hown : w.ownsRow base e size v n xs)
    (sv : Value) (m : Nat) (news : List Value) (hr : Reads w size sv m news) (h1 : ∀ u ∈ news, u.oneCell' = true)
    (h63 : n + m ≤ maxLen) (hbytes : (n + m) * bytes ≤ 140737488355328) (hbase : base ≤ w.heap.size) :
    ∃ v' w', (Builtin.append_ #[t, t] ty #[v, sv]).run P w = .ok v' w' ∧ w'.ownsRow base e size v' (n + m) (xs ++ news) ∧ w.grownBy w' v.ownBlock ∧
      (v'.ownBlock = v.ownBlock ∨ v'.ownBlock = some w.heap.size) := by
  obtain ⟨hl, A, c, rfl, hmc, _, hc⟩ := hr
  have hnil : m = 0 → news = [] := fun h => List.eq_nil_of_length_eq_zero (by rw [hl, h]; simp)
  rcases A with _ | ad
  · have hm : m = 0 := by
      rcases Nat.eq_zero_or_pos m with h0 | h0
      · exact h0
      · obtain ⟨b, o, h, _⟩ := hc h0
        cases h
    have hn := hnil hm
    subst hm
    subst hn
    exact ⟨v, w, run_append_nil' w base t ty e i size ht hi v n xs hown c, by simpa using hown, World.grownBy.refl w _, .inl rfl⟩
  · have hcells : ∀ j u, news[j]? = some u → w.cell? (ad.add j) = some u := by
      intro j u hu
      rcases Nat.eq_zero_or_pos m with h0 | h0
      · rw [hnil h0] at hu; simp at hu
      · obtain ⟨b, o, h, hc'⟩ := hc h0
        injection h with h
        subst h
        rw [add_plain]
        exact hc' j u hu
    obtain ⟨v', w', hrun, h2, h3, _, h5⟩ := run_append_own_at (P := P) w base t ty e i z size bytes ht hi hz hsize hby hzs hsz v n xs hown ad m c news hl hcells h1 h63 hbytes hbase
    exact ⟨v', w', hrun, h2, h3, h5⟩

theorem wp_append_src {P : Program} (w : World) {o : Oper} {a : Act} {K : Act → World → Prop} {Q : Exit → Act → World → Prop} (s x : Operand) (t : TypeId)
    (ho : o.op = .call { callee := .builtin .append, args := #[s, x], argTypes := #[t, t] })
    (base : Nat) (e : TypeId) (i : TypeInfo) (z : Value) (size bytes : Nat) (ht : P.underlying t = some (.slice e)) (hi : P.info? e = some i) (hz : i.zero = some z)
    (hsize : i.size = size) (hby : i.bytes = bytes) (hzs : z.cells.size = size) (hsz : 0 < size)
    (v : Value) (n : Nat) (xs : List Value) (hs : a.eval s = v) (hown : w.ownsRow base e size v n xs)
    (sv : Value) (m : Nat) (news : List Value) (hx : a.eval x = sv) (hr : Reads w size sv m news) (h1 : ∀ u ∈ news, u.oneCell' = true)
    (h63 : n + m ≤ maxLen) (hbytes : (n + m) * bytes ≤ 140737488355328) (hbase : base ≤ w.heap.size)
    (h : ∀ v' w', w'.ownsRow base e size v' (n + m) (xs ++ news) → w.grownBy w' v.ownBlock → (v'.ownBlock = v.ownBlock ∨ v'.ownBlock = some w.heap.size) → K (a.put o.dst v') w') : o.wp P a w K Q := by
  obtain ⟨v', w', hrun, h2, h3, h4⟩ := run_append_src (P := P) w base t o.type e i z size bytes ht hi hz hsize hby hzs hsz v n xs hown sv m news hr h1 h63 hbytes hbase
  unfold Oper.wp execOp
  simp only [ho, resolve, invoke, builtin, Sem.run_bind, Sem.run_pure, Result.andThen_ok, List.map_toArray, List.map_cons, List.map_nil, hs, hx, hrun]
  exact h v' w' h2 h3 h4

theorem wpList_append_src {P : Program} (w : World) {ops : Array Oper} {rest : List Oper} {o : Oper} {a : Act} {Q : Exit → Act → World → Prop} (hgd : o.guard = none) (s x : Operand) (t : TypeId)
    (ho : o.op = .call { callee := .builtin .append, args := #[s, x], argTypes := #[t, t] })
    (base : Nat) (e : TypeId) (i : TypeInfo) (z : Value) (size bytes : Nat) (ht : P.underlying t = some (.slice e)) (hi : P.info? e = some i) (hz : i.zero = some z)
    (hsize : i.size = size) (hby : i.bytes = bytes) (hzs : z.cells.size = size) (hsz : 0 < size)
    (v : Value) (n : Nat) (xs : List Value) (hs : a.eval s = v) (hown : w.ownsRow base e size v n xs)
    (sv : Value) (m : Nat) (news : List Value) (hx : a.eval x = sv) (hr : Reads w size sv m news) (h1 : ∀ u ∈ news, u.oneCell' = true)
    (h63 : n + m ≤ maxLen) (hbytes : (n + m) * bytes ≤ 140737488355328) (hbase : base ≤ w.heap.size)
    (h : ∀ v' w', w'.ownsRow base e size v' (n + m) (xs ++ news) → w.grownBy w' v.ownBlock → (v'.ownBlock = v.ownBlock ∨ v'.ownBlock = some w.heap.size) → wpList P ops Q rest (a.put o.dst v') w') : wpList P ops Q (o :: rest) a w :=
  wpList_plain hgd fun _ hK => wp_append_src w s x t ho base e i z size bytes ht hi hz hsize hby hzs hsz v n xs hs hown sv m news hx hr h1 h63 hbytes hbase fun v' w' h2 h3 h4 => hK _ _ (h v' w' h2 h3 h4)

/-- append onto an empty slice that was just made: nothing older is written. -/
theorem run_append_fresh {P : Program} (w : World) (base : Nat) (t ty e : TypeId) (i : TypeInfo) (z : Value) (size bytes : Nat) (ht : P.underlying t = some (.slice e)) (hi : P.info? e = some i) (hz : i.zero = some z)
    (hsize : i.size = size) (hby : i.bytes = bytes) (hzs : z.cells.size = size) (hsz : 0 < size)
    (g : Nat) (hg : w.heap[g]? = some (.cells #[] e (0, 0))) (hbg : base ≤ g)
    (sv : Value) (m : Nat) (news : List Value) (hr : Reads w size sv m news) (h1 : ∀ u ∈ news, u.oneCell' = true)
    (h63 : m ≤ maxLen) (hbytes : m * bytes ≤ 140737488355328) (hbase : base ≤ w.heap.size) :
    ∃ v' w', (Builtin.append_ #[t, t] ty #[.slice (some ⟨g, 0, none⟩) 0 0, sv]).run P w = .ok v' w' ∧ w'.ownsRow base e size v' m news ∧ Below w.heap.size w w' := by
  have hown : w.ownsRow base e size (.slice (some ⟨g, 0, none⟩) 0 0) 0 [] := ⟨by simp, .inr ⟨g, 0, #[], rfl, hbg, hg, by omega, by simp [maxLen], by simp, by simp⟩⟩
  obtain ⟨hl, A, c, rfl, hmc, _, hc⟩ := hr
  subst hsize
  subst hby
  have hsmall : m ≤ 9223372036854775807 := by simp only [maxLen] at h63; omega
  rcases Nat.eq_zero_or_pos m with h0 | h0
  · subst h0
    have hn : news = [] := List.eq_nil_of_length_eq_zero (by simpa using hl)
    subst hn
    rcases A with _ | ad
    · exact ⟨_, w, run_append_nil' w base t ty e i i.size ht hi _ 0 [] hown c, hown, Below.refl _ _⟩
    · have hrun := run_append_room (P := P) w t ty e i ht hi g 0 0 #[] hg ad 0 c [] (by simp) (by simp) (by simp) (by omega) (by simp)
      refine ⟨_, _, hrun, ⟨by simp, .inr ⟨g, 0, #[], rfl, hbg, ?_, by omega, by simp [maxLen], by simp, by simp⟩⟩, ⟨rfl, rfl, rfl, by simp, fun k hk => ?_⟩⟩
      · exact (setRow_heap w g #[] _ e _ hg).trans (by simp)
      · by_cases hkg : k = g
        · subst hkg
          rw [hg]
          exact (setRow_heap w k #[] _ e _ hg).trans (by simp)
        · exact setRow_other w g k _ (fun e => hkg (by simp [e]))
  · obtain ⟨b, o, rfl, hcell⟩ := hc h0
    have hnews : ∀ j u, news[j]? = some u → w.cell? ((⟨b, o, none⟩ : Addr).add j) = some u := fun j u hu => by rw [add_plain]; exact hcell j u hu
    have hrun := run_append_grow (P := P) w t ty e i z ht hi hz ⟨g, 0, none⟩ 0 0 [] hown.1 (hown.cells (g := g) rfl) ⟨b, o, none⟩ m c news hl hnews (by omega) (by omega) (growslice_fits (by omega) (by simpa using hbytes))
    have hge := grownCap_ge w (0 + m) 0 e
    have hcm : grownCap w (0 + m) 0 e ≤ maxLen := grownCap_le_maxLen w (0 + m) 0 e (by simpa using h63)
    refine ⟨_, _, hrun, ⟨hl, .inr ⟨w.heap.size, _, _, by simp only [Nat.zero_add], hbase, heap_alloc_new w.drew _, ?_, hcm, ?_, ?_⟩⟩, ⟨rfl, rfl, rfl, by simp, fun k hk => heap_alloc_old w.drew _ hk⟩⟩
    · simpa using hge
    · simp only [Array.size_append, List.size_toArray, size_zeroCells, hzs, hl, List.length_nil, Nat.zero_add, ← Nat.add_mul]
      congr 1
      simp at hge ⊢
      omega
    · simp only [Array.toList_append, List.nil_append, ← hl]
      exact List.take_left

theorem wp_append_fresh {P : Program} (w : World) {o : Oper} {a : Act} {K : Act → World → Prop} {Q : Exit → Act → World → Prop} (s x : Operand) (t : TypeId)
    (ho : o.op = .call { callee := .builtin .append, args := #[s, x], argTypes := #[t, t] })
    (base : Nat) (e : TypeId) (i : TypeInfo) (z : Value) (size bytes : Nat) (ht : P.underlying t = some (.slice e)) (hi : P.info? e = some i) (hz : i.zero = some z)
    (hsize : i.size = size) (hby : i.bytes = bytes) (hzs : z.cells.size = size) (hsz : 0 < size)
    (g : Nat) (hs : a.eval s = .slice (some ⟨g, 0, none⟩) 0 0) (hg : w.heap[g]? = some (.cells #[] e (0, 0))) (hbg : base ≤ g)
    (sv : Value) (m : Nat) (news : List Value) (hx : a.eval x = sv) (hr : Reads w size sv m news) (h1 : ∀ u ∈ news, u.oneCell' = true)
    (h63 : m ≤ maxLen) (hbytes : m * bytes ≤ 140737488355328) (hbase : base ≤ w.heap.size)
    (h : ∀ v' w', w'.ownsRow base e size v' m news → Below w.heap.size w w' → K (a.put o.dst v') w') : o.wp P a w K Q := by
  obtain ⟨v', w', hrun, h2, h3⟩ := run_append_fresh (P := P) w base t o.type e i z size bytes ht hi hz hsize hby hzs hsz g hg hbg sv m news hr h1 h63 hbytes hbase
  unfold Oper.wp execOp
  simp only [ho, resolve, invoke, builtin, Sem.run_bind, Sem.run_pure, Result.andThen_ok, List.map_toArray, List.map_cons, List.map_nil, hs, hx, hrun]
  exact h v' w' h2 h3

theorem one_I (n : Int) : (I n).oneCell' = true := rfl
theorem ints_one (xs : List Int) : ∀ u ∈ xs.map I, u.oneCell' = true := fun u hu => by
  obtain ⟨x, _, rfl⟩ := List.mem_map.1 hu
  rfl
theorem Reads.of_own {w : World} {base e size : Nat} {v : Value} {n : Nat} {xs : List Value} (h : w.ownsRow base e size v n xs) : Reads w size v n xs := by
  refine ⟨h.1, ?_⟩
  rcases h.2 with ⟨rfl, h0⟩ | ⟨g, cap, cur, rfl, hb, hg, h1, h2, h3, h4⟩
  · exact ⟨none, 0, by rw [h0], by omega, by omega, fun h => by omega⟩
  · refine ⟨some ⟨g, 0, none⟩, cap, rfl, h1, h2, fun hn => ⟨g, 0, rfl, fun j u hu => ?_⟩⟩
    have := h.cells (g := g) rfl j u hu
    rwa [add_plain] at this
theorem grown_of_below {w w' : World} (hb : Below w.heap.size w w') (row : Option Nat) : w.grownBy w' row := ⟨hb.os, hb.tape, hb.output, hb.size, fun k hk _ => hb.block k hk⟩
theorem own_below {w w' : World} {base e size n : Nat} {v : Value} {xs : List Value} (h : w.ownsRow base e size v n xs) (hb : Below w.heap.size w w') : w'.ownsRow base e size v n xs := h.kept (grown_of_below hb none) (by rcases hq : v.ownBlock with _ | q <;> simp)

theorem own_base' {w : World} {B B' e size n : Nat} {v : Value} {xs : List Value} (h : w.ownsRow B' e size v n xs) (hB : B ≤ B') : w.ownsRow B e size v n xs :=
  ⟨h.1, h.2.imp id (fun ⟨g, cap, cur, a, b, c⟩ => ⟨g, cap, cur, a, Nat.le_trans hB b, c⟩)⟩
theorem own_setCell {W : World} {base e size n : Nat} {v : Value} {xs : List Value} (h : W.ownsRow base e size v n xs) (q : Addr) (u : Value) (hq : q.block < base) : (W.setCell q u).ownsRow base e size v n xs :=
  h.kept (row := some q.block) ⟨rfl, rfl, rfl, by simp, fun k _ hk => Below.heap_setCell _ _ _ k (fun e => hk (by rw [e]))⟩ (.inr fun e => by have := h.lt _ e; omega)
theorem own_shape {w : World} {B e size n : Nat} {v : Value} {xs : List Value} (h : w.ownsRow B e size v n xs) : ∃ A c, v = .slice A n c := by
  rcases h.2 with ⟨rfl, rfl⟩ | ⟨g, cap, cur, rfl, _⟩
  · exact ⟨_, _, rfl⟩
  · exact ⟨_, _, rfl⟩
theorem own_shape_pos {w : World} {B e size n : Nat} {v : Value} {xs : List Value} (h : w.ownsRow B e size v n xs) (hn : 0 < n) : ∃ g cap, v = .slice (some ⟨g, 0, none⟩) n cap ∧ B ≤ g ∧ g < w.heap.size := by
  rcases h.2 with ⟨rfl, rfl⟩ | ⟨g, cap, cur, rfl, hb, hh, _⟩
  · omega
  · exact ⟨g, cap, rfl, hb, (Array.getElem?_eq_some_iff.1 hh).1⟩
theorem own_cell {w : World} {B e n g cap : Nat} {xs : List Int} (h : w.ownsRow B e 1 (.slice (some ⟨g, 0, none⟩) n cap) n (xs.map I)) (i : Nat) (x : Int) (hx : xs[i]? = some x) : w.cell? ⟨g, i, none⟩ = some (I x) := by
  have hl := h.1
  rw [List.length_map] at hl
  have hi := (List.getElem?_eq_some_iff.1 hx).1
  rw [h.cellAt i (by omega)]
  rw [List.getElem?_map, hx]; rfl

theorem Tryz.info3 : (Tryz.prog.info? 3).map (fun i => (i.zero, i.size, i.bytes)) = some (some (.int .i64 0), 1, 8) := by kernel_rfl
end Go.Proofs.YtldcehhhndlhdaaGreatDoor
