/- A town whose soundings are all greater by a number. No function here. -/
import Derived.Test.YtplbaijdnpfdgaaV9
namespace Go.Proofs.Ytplbaijdnpfdgaa
open Go.RowKit Go.Sort

def shiftS (u : Int) (s : Snd) : Snd := ⟨s.well, s.low + u, s.high + u⟩
def shiftT (u : Int) (t : Twn) : Twn := ⟨t.wells, t.snd.map (shiftS u), t.slp⟩
theorem shift_many (u : Int) (t : Twn) : (shiftT u t).snd.length = t.snd.length ∧ (shiftT u t).slp = t.slp := by simp [shiftT]
/-- What the words say but for the bounds of each level. -/
structure Fr (t : Twn) (x : Nat → Int) : Prop where
  snd : ∀ s ∈ t.snd, s.low ≤ x s.well.toNat ∧ x s.well.toNat ≤ s.high
  slp : ∀ s ∈ t.slp, s.low ≤ x s.b.toNat - x s.a.toNat ∧ x s.b.toNat - x s.a.toNat ≤ s.high
theorem Fr.max {t : Twn} {x y : Nat → Int} (hx : Fr t x) (hy : Fr t y) : Fr t fun w => max (x w) (y w - 1) := by
  refine ⟨fun s hs => ?_, fun s hs => ?_⟩
  · have := hx.snd s hs
    have := hy.snd s hs
    omega
  · have := hx.slp s hs
    have := hy.slp s hs
    omega
theorem Fr.min {t : Twn} {x y : Nat → Int} (hx : Fr t x) (hy : Fr t y) : Fr t fun w => min (x w) (y w + 1) := by
  refine ⟨fun s hs => ?_, fun s hs => ?_⟩
  · have := hx.snd s hs
    have := hy.snd s hs
    omega
  · have := hx.slp s hs
    have := hy.slp s hs
    omega
theorem Tr.fr {t : Twn} {x : Nat → Int} (h : Tr t x) : Fr t x := ⟨h.snd, h.slp⟩
/-- Each level is away from 0 and MaxLevel: then the bounds of a level say nothing. -/
structure Away (t : Twn) : Prop where
  low : ∀ w : Nat, (w : Int) < t.wells → 0 < (lvl (closeM (baseM t)) w).low
  high : ∀ w : Nat, (w : Int) < t.wells → (lvl (closeM (baseM t)) w).high < 99
theorem low_truth {t : Twn} (h : openE t true = 0) : Tr t fun w => (lowL t).getD w 0 := (isTrB_iff.1 (ends_true h).1).2
theorem high_truth {t : Twn} (h : openE t true = 0) : Tr t fun w => (highL t).getD w 0 := (isTrB_iff.1 (ends_true h).2).2
theorem fr_truth {t : Twn} (h : openE t true = 0) (ha : Away t) {z : Nat → Int} (hz : Fr t z) : Tr t z := by
  have hv := valid_vl (openE_zero' h).1
  have key : ∀ x : Nat → Int, Tr t x → Tr t fun w => min (max (z w) (x w - 1)) (x w + 1) := fun x hx => by
    have h1 := (hz.max hx.fr).min hx.fr
    refine ⟨fun w hw => ?_, h1.snd, h1.slp⟩
    have := each_level h hx hw
    have := ha.low w hw
    have := ha.high w hw
    omega
  refine ⟨fun w hw => ?_, hz.snd, hz.slp⟩
  have k1 := each_level h (key _ (low_truth h)) hw
  have k2 := each_level h (key _ (high_truth h)) hw
  have a1 := ha.low w hw
  have a2 := ha.high w hw
  rw [lowL_get hw] at k1
  rw [highL_get hw] at k2
  omega
theorem shift_truth {t : Twn} {u : Int} {x : Nat → Int} (h : openE t true = 0) (ha : ∀ w : Nat, (w : Int) < t.wells → 0 < (lvl (closeM (baseM t)) w).low + u ∧ (lvl (closeM (baseM t)) w).high + u < 99) (hx : Tr t x) : Tr (shiftT u t) fun w => x w + u := by
  refine ⟨fun w hw => ?_, fun s hs => ?_, fun s hs => ?_⟩
  · have := each_level h hx (w := w) hw
    have := ha w hw
    omega
  · obtain ⟨s', hs', rfl⟩ := List.mem_map.1 hs
    have := hx.snd s' hs'
    simp only [shiftS]; omega
  · have := hx.slp s hs
    omega
theorem shift_back {t : Twn} {u : Int} {y : Nat → Int} (h : openE t true = 0) (ha : Away t) (hy : Tr (shiftT u t) y) : Tr t fun w => y w - u := by
  refine fr_truth h ha ⟨fun s hs => ?_, fun s hs => ?_⟩
  · have := hy.snd (shiftS u s) (List.mem_map.2 ⟨s, hs, rfl⟩)
    simp only [shiftS] at this
    omega
  · have := hy.slp s hs
    omega
structure Deep (t : Twn) (u : Int) (k : Nat) : Prop where
  all : ∀ w, w < k → 0 < (lvl (closeM (baseM t)) w).low ∧ (lvl (closeM (baseM t)) w).high < 99 ∧ 0 < (lvl (closeM (baseM t)) w).low + u ∧ (lvl (closeM (baseM t)) w).high + u < 99
theorem shift_said {t : Twn} {u : Int} (h : openE t true = 0) (hd : Deep t u t.wells.toNat) (hv : valid (shiftT u t) = true) :
    openE (shiftT u t) true = 0 ∧ (∀ w : Nat, (w : Int) < t.wells → (lowL (shiftT u t)).getD w 0 = (lowL t).getD w 0 + u ∧ (highL (shiftT u t)).getD w 0 = (highL t).getD w 0 + u) ∧ ∀ a b, isWell t.wells a = true → isWell t.wells b = true → differP (shiftT u t) a b = differP t a b := by
  have ha : Away t := ⟨fun w hw => (hd.all w (by omega)).1, fun w hw => (hd.all w (by omega)).2.1⟩
  have hb : ∀ w : Nat, (w : Int) < t.wells → 0 < (lvl (closeM (baseM t)) w).low + u ∧ (lvl (closeM (baseM t)) w).high + u < 99 := fun w hw => (hd.all w (by omega)).2.2
  obtain ⟨x0, hx0⟩ := has_truth h
  have ho : openE (shiftT u t) true = 0 := open_of_truth hv (shift_truth h hb hx0)
  refine ⟨ho, fun w hw => ?_, fun a b h1 h2 => ?_⟩
  · rw [lowL_get (t := shiftT u t) hw, highL_get (t := shiftT u t) hw, lowL_get hw, highL_get hw]
    obtain ⟨⟨x, hx, ex⟩, ⟨y, hy, ey⟩⟩ := lvl_one h hw
    obtain ⟨⟨x', hx', ex'⟩, ⟨y', hy', ey'⟩⟩ := lvl_one ho (w := w) hw
    have a1 := each_level ho (shift_truth h hb hx) (w := w) hw
    have a2 := each_level ho (shift_truth h hb hy) (w := w) hw
    have b1 := each_level h (shift_back h ha hx') hw
    have b2 := each_level h (shift_back h ha hy') hw
    omega
  · obtain ⟨lo, hi, e, ⟨x, hx, ex⟩, ⟨y, hy, ey⟩, hall⟩ := differ_one h h1 h2
    obtain ⟨lo', hi', e', ⟨x', hx', ex'⟩, ⟨y', hy', ey'⟩, hall'⟩ := differ_one ho h1 h2
    have a1 := hall' _ (shift_truth h hb hx)
    have a2 := hall' _ (shift_truth h hb hy)
    have b1 := hall _ (shift_back h ha hx')
    have b2 := hall _ (shift_back h ha hy')
    rw [e, e']
    have e1 : lo' = lo := by omega
    have e2 : hi' = hi := by omega
    rw [e1, e2]
end Go.Proofs.Ytplbaijdnpfdgaa
