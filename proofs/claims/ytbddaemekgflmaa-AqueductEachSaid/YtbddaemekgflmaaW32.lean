/- Walks of Lossy and Clash. -/
import Derived.Test.YtbddaemekgflmaaW15
namespace Go.Proofs.Ytbddaemekgflmaa
open Go.RowKit Go.Sort

def lossyOf (s : (Int × Int) × Int) : Int × Int := if s.2 = 0 then (if 0 < s.1.1 then (1, 0) else if s.1.2 = 0 then (2, 0) else (3, 0)) else (0, s.2)
def lossyR (d : DLine) (p : Int) : Int × Int := lossyOf (lossR d p)
set_option maxRecDepth 20000 in
set_option maxHeartbeats 1000000 in
theorem lossy_any (v : Value) (d : DLine) (p : Int) (w : World) (hv : LineAt w v d) (hlen : d.odds.length ≤ 1000) (hlen' : d.pts.length ≤ 1000) :
    Calls Try.prog 50 #[v, I p] w fun e w' => e = .returned (.tuple #[I (lossyR d p).1, I (lossyR d p).2]) ∧ Below w.heap.size w w' := by
  have HV := Lib.hid hv
  obtain ⟨pv, ov, rfl, hp, ho⟩ := hv
  have hb0 : ∀ x, Below w.heap.size w (w.alloc x) := fun x => (Below.refl _ _).alloc (Nat.le_refl _) _
  clear hp ho
  obtain ⟨⟨⟨lo, hi⟩, er⟩, hR⟩ : ∃ r, lossR d p = r := ⟨_, rfl⟩
  have HL := Lib.hid (show lossyR d p = lossyOf ((lo, hi), er) by unfold lossyR; rw [hR])
  have HR := Lib.hid hR
  clear hR
  by_cases h0 : er = 0
  · subst h0
    by_cases h1 : 0 < lo
    · have HX := Lib.hid (show lossyOf ((lo, hi), 0) = (1, 0) by simp [lossyOf, h1])
      go_enter Try.func50, Try.ntmps50
      go_wp2_with (go_at_call 49; refine (loss_any _ d _ _ (HV.out.below (hb0 _)) hlen hlen').mono ?_; rintro e w1 ⟨rfl, hb⟩; rw [HR.out]; have HB1 := Lib.hid (bto (hb0 _) hb); clear hb)
      go_ret2
      exact ⟨by rw [HL.out, HX.out]; rfl, HB1.out.alloc HB1.out.size _⟩
    · by_cases h2 : hi = 0
      · subst h2
        have HX := Lib.hid (show lossyOf ((lo, 0), 0) = (2, 0) by simp [lossyOf, h1])
        go_enter Try.func50, Try.ntmps50
        go_wp2_with (go_at_call 49; refine (loss_any _ d _ _ (HV.out.below (hb0 _)) hlen hlen').mono ?_; rintro e w1 ⟨rfl, hb⟩; rw [HR.out]; have HB1 := Lib.hid (bto (hb0 _) hb); clear hb)
        go_ret2
        exact ⟨by rw [HL.out, HX.out]; rfl, HB1.out.alloc HB1.out.size _⟩
      · have HX := Lib.hid (show lossyOf ((lo, hi), 0) = (3, 0) by simp [lossyOf, h1, h2])
        have h2' : (hi == 0) = false := beq_eq_false_iff_ne.2 h2
        go_enter Try.func50, Try.ntmps50
        go_wp2_with (go_at_call 49; refine (loss_any _ d _ _ (HV.out.below (hb0 _)) hlen hlen').mono ?_; rintro e w1 ⟨rfl, hb⟩; rw [HR.out]; have HB1 := Lib.hid (bto (hb0 _) hb); clear hb)
        go_ret2
        exact ⟨by rw [HL.out, HX.out]; rfl, HB1.out.alloc HB1.out.size _⟩
  · have HX := Lib.hid (show lossyOf ((lo, hi), er) = (0, er) by simp [lossyOf, h0])
    have h0' : (er != 0) = true := by simpa using h0
    clear h0
    go_enter Try.func50, Try.ntmps50
    go_wp2_with (go_at_call 49; refine (loss_any _ d _ _ (HV.out.below (hb0 _)) hlen hlen').mono ?_; rintro e w1 ⟨rfl, hb⟩; rw [HR.out]; have HB1 := Lib.hid (bto (hb0 _) hb); clear hb)
    go_ret2
    exact ⟨by rw [HL.out, HX.out]; rfl, HB1.out.alloc HB1.out.size _⟩
end Go.Proofs.Ytbddaemekgflmaa
