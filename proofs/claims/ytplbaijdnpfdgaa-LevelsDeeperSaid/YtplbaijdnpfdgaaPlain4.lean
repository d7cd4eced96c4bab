/- Layer 1: some of the words of a town. No program here. -/
import Derived.Test.YtplbaijdnpfdgaaPlain3
namespace Go.Proofs.Ytplbaijdnpfdgaa
def subL {α : Type} (is : Nat → Bool) : Nat → List α → List α
  | _, [] => []
  | i, x :: l => if is i then x :: subL is (i + 1) l else subL is (i + 1) l
def sub (t : Twn) (is : Nat → Bool) : Twn := ⟨t.wells, subL is 0 t.snd, subL is t.snd.length t.slp⟩
theorem subL_all {α : Type} (is : Nat → Bool) (h : ∀ i, is i = true) : ∀ (i : Nat) (l : List α), subL is i l = l
  | _, [] => rfl
  | i, x :: l => by rw [subL, if_pos (h i), subL_all is h]
theorem sub_all (t : Twn) : sub t (fun _ => true) = t := by simp [sub, subL_all]
theorem subL_snoc {α : Type} (is : Nat → Bool) : ∀ (l : List α) (i k : Nat) (h : k < l.length), subL is i (l.take (k + 1)) = subL is i (l.take k) ++ (if is (i + k) then [l[k]] else [])
  | [], _, _, h => absurd h (by simp)
  | x :: l, i, 0, _ => by simp [subL]
  | x :: l, i, k + 1, h => by
    have := subL_snoc is l (i + 1) k (by simpa using h)
    rw [List.take_succ_cons, List.take_succ_cons, subL, subL, this, show i + 1 + k = i + (k + 1) by omega]
    split <;> simp
theorem subL_sublist {α : Type} (is : Nat → Bool) : ∀ (i : Nat) (l : List α), (subL is i l).Sublist l
  | _, [] => .slnil
  | i, x :: l => by
    rw [subL]
    split
    · exact (subL_sublist is (i + 1) l).cons_cons x
    · exact (subL_sublist is (i + 1) l).cons x
theorem Vl.sub {t : Twn} (h : Vl t) (is : Nat → Bool) : Vl (sub t is) := by
  have s1 := subL_sublist is 0 t.snd
  have s2 := subL_sublist is t.snd.length t.slp
  exact ⟨h.w0, h.w6, fun s hs => h.snd s (s1.subset hs), fun s hs => h.slp s (s2.subset hs)⟩
/-- The bounds while the words are taken in. -/
def sndTo (t : Twn) (is : Nat → Bool) (k : Nat) : List Int := (subL is 0 (t.snd.take k)).foldl soundM (rock t.wells)
def slpTo (t : Twn) (is : Nat → Bool) (k : Nat) : List Int := (subL is t.snd.length (t.slp.take k)).foldl slopeM (sndTo t is t.snd.length)
theorem sndTo_succ {t : Twn} (is : Nat → Bool) {k : Nat} (h : k < t.snd.length) : sndTo t is (k + 1) = if is k then soundM (sndTo t is k) t.snd[k] else sndTo t is k := by
  rw [sndTo, subL_snoc is t.snd 0 k h, Nat.zero_add]
  split <;> simp [sndTo, List.foldl_append]
theorem slpTo_succ {t : Twn} (is : Nat → Bool) {k : Nat} (h : k < t.slp.length) : slpTo t is (k + 1) = if is (t.snd.length + k) then slopeM (slpTo t is k) t.slp[k] else slpTo t is k := by
  rw [slpTo, subL_snoc is t.slp t.snd.length k h]
  split <;> simp [slpTo, List.foldl_append]
theorem slpTo_all (t : Twn) (is : Nat → Bool) : slpTo t is t.slp.length = baseM (sub t is) := by simp [slpTo, sndTo, baseM, sub]
theorem sndTo_len (t : Twn) (is : Nat → Bool) (k : Nat) : (sndTo t is k).length = 49 := by rw [sndTo, sounds_len, rock_len]
theorem slpTo_len (t : Twn) (is : Nat → Bool) (k : Nat) : (slpTo t is k).length = 49 := by rw [slpTo, slopes_len, sndTo_len]
end Go.Proofs.Ytplbaijdnpfdgaa
