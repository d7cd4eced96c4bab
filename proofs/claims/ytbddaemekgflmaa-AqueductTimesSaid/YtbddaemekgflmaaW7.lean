/- Walks of Worst and Next. -/
import Derived.Test.YtbddaemekgflmaaW5
import Derived.Test.YtbddaemekgflmaaW6
namespace Go.Proofs.Ytbddaemekgflmaa
open Go.RowKit Go.Sort

/-- What Worst and Next return. -/
def worstR (d : DLine) (f t : Int) : Int × Int := if askE d (someOf d f t) = 0 then (worstN d f.toNat t.toNat, 0) else (0, askE d (someOf d f t))
def nextR (d : DLine) (f t : Int) : Int × Int := if askE d (someOf d f t) = 0 then (if t = f + 1 then (0, 3) else (nextN d f.toNat t.toNat, 0)) else (0, askE d (someOf d f t))
theorem askE_ok {d : DLine} {is : Bool} (h : askE d is = 0) : valid d = true ∧ is = true := by
  unfold askE at h
  cases hv : valid d <;> cases is <;> simp [hv] at h ⊢
theorem someOf_spec {d : DLine} {f t : Int} (h : someOf d f t = true) : 0 ≤ f ∧ f < t ∧ t ≤ d.odds.length := by
  unfold someOf at h
  simpa [and_assoc] using h
theorem entF_eq (part : Part) (n i j : Nat) (h : i < j) (h' : j ≤ n) : entF part n i j = tab part (j - i) i := by
  unfold entF; rw [if_pos ⟨h, h'⟩]

set_option maxHeartbeats 1000000 in
theorem worst_any (v : Value) (d : DLine) (f t : Int) (w : World) (hv : LineAt w v d) (hlen : d.odds.length ≤ 1000) :
    Calls Try.prog 20 #[v, I f, I t] w fun e w' => e = .returned (.tuple #[I (worstR d f t).1, I (worstR d f t).2]) ∧ Below w.heap.size w w' := by
  have HV := Lib.hid hv
  obtain ⟨pv, ov, rfl, hp, ho⟩ := hv
  have hb0 : ∀ x, Below w.heap.size w (w.alloc x) := fun x => (Below.refl _ _).alloc (Nat.le_refl _) _
  clear hp ho
  have k0 := cell_regrown (box_cell w #[pv, ov] 25 0 rfl)
  have k1 := cell_regrown (box_cell w #[pv, ov] 25 1 rfl)
  have c1 := ext_call (w := w.alloc (.cells #[pv, ov] 25)) fun W hW => areSt_any _ d f t W (HV.out.below (bto (hb0 _) hW))
  have c2 := ext_call (w := w.alloc (.cells #[pv, ov] 25)) fun W hW => ask_any _ d (someOf d f t) W (HV.out.below (bto (hb0 _) hW)) hlen
  by_cases h0 : askE d (someOf d f t) = 0
  · obtain ⟨hvd, hso⟩ := askE_ok h0
    obtain ⟨hf0, hft, htn⟩ := someOf_spec hso
    have hR : worstR d f t = (worstN d f.toNat t.toNat, 0) := by unfold worstR; rw [if_pos h0]
    rw [hR]
    rw [h0] at c2
    obtain ⟨hn, -⟩ := valid_spec hvd
    have HSO := Lib.hid hso
    have HVD := Lib.hid hvd
    clear hR h0 hso hvd
    obtain ⟨f, rfl⟩ := Int.eq_ofNat_of_zero_le hf0
    obtain ⟨t, rfl⟩ := Int.eq_ofNat_of_zero_le (show 0 ≤ t by omega)
    simp only [Int.toNat_natCast]
    go_enter Try.func20, Try.ntmps20
    go_wp2_with fail
    refine wp_region_ext (by kernel_rfl) (by kernel_rfl) ?_
    repeat (first | go_big_quiet_step (first | exact c1 _ _ | exact c2 _ _) | quiet_step (first | exact c1 _ _ | exact c2 _ _))
    refine wpQuiet_nil ?_
    clear c1 c2 k0 k1
    intro w1 hb1
    obtain ⟨hc1, hf1⟩ := bcell hb1
    go_wp2_with (go_at_call 60; refine (reckW_any _ d _ (HV.out.below (bto (hb0 _) hb1)) HVD.out).mono ?_; rintro e w2 ⟨T, rfl, hT, hb2⟩; have hT1 := (hT f t (by omega) (by omega)).1; rw [entF_eq _ _ _ _ (by omega) (by omega)] at hT1; have HB2 := Lib.hid hb2; clear hT hb2 hc1 hf1)
    go_ret2
    exact ⟨rfl, bto (hb0 _) (bto hb1 HB2.out)⟩
  · have hR : worstR d f t = (0, askE d (someOf d f t)) := by unfold worstR; rw [if_neg h0]
    rw [hR]
    have h0' : (askE d (someOf d f t) != 0) = true := by simpa using h0
    clear hR h0
    go_enter Try.func20, Try.ntmps20
    go_wp2_with fail
    refine wp_region_ext (by kernel_rfl) (by kernel_rfl) ?_
    repeat (first | go_big_quiet_step (first | exact c1 _ _ | exact c2 _ _) | quiet_step (first | exact c1 _ _ | exact c2 _ _))
    refine wpQuiet_nil ?_
    clear c1 c2 k0 k1
    intro w1 hb1
    go_wp2_with fail
    go_ret2
    exact ⟨rfl, bto (hb0 _) hb1⟩
set_option maxHeartbeats 1000000 in
theorem next_any (v : Value) (d : DLine) (f t : Int) (w : World) (hv : LineAt w v d) (hlen : d.odds.length ≤ 1000) :
    Calls Try.prog 25 #[v, I f, I t] w fun e w' => e = .returned (.tuple #[I (nextR d f t).1, I (nextR d f t).2]) ∧ Below w.heap.size w w' := by
  have HV := Lib.hid hv
  obtain ⟨pv, ov, rfl, hp, ho⟩ := hv
  have hb0 : ∀ x, Below w.heap.size w (w.alloc x) := fun x => (Below.refl _ _).alloc (Nat.le_refl _) _
  clear hp ho
  have k0 := cell_regrown (box_cell w #[pv, ov] 25 0 rfl)
  have k1 := cell_regrown (box_cell w #[pv, ov] 25 1 rfl)
  have c1 := ext_call (w := w.alloc (.cells #[pv, ov] 25)) fun W hW => areSt_any _ d f t W (HV.out.below (bto (hb0 _) hW))
  have c2 := ext_call (w := w.alloc (.cells #[pv, ov] 25)) fun W hW => ask_any _ d (someOf d f t) W (HV.out.below (bto (hb0 _) hW)) hlen
  by_cases h0 : askE d (someOf d f t) = 0
  · obtain ⟨hvd, hso⟩ := askE_ok h0
    obtain ⟨hf0, hft, htn⟩ := someOf_spec hso
    rw [h0] at c2
    obtain ⟨hn, -⟩ := valid_spec hvd
    have HSO := Lib.hid hso
    have HVD := Lib.hid hvd
    obtain ⟨f, rfl⟩ := Int.eq_ofNat_of_zero_le hf0
    obtain ⟨t, rfl⟩ := Int.eq_ofNat_of_zero_le (show 0 ≤ t by omega)
    by_cases h1 : t = f + 1
    · have hR : nextR d f t = (0, 3) := by unfold nextR; rw [if_pos h0, if_pos (by omega)]
      rw [hR]
      have h1' : ((t : Int) == (f : Int) + 1) = true := by simp; omega
      clear hR h0 hso hvd h1
      go_enter Try.func25, Try.ntmps25
      go_wp2_with fail
      refine wp_region_ext (by kernel_rfl) (by kernel_rfl) ?_
      repeat (first | go_big_quiet_step (first | exact c1 _ _ | exact c2 _ _) | quiet_step (first | exact c1 _ _ | exact c2 _ _))
      refine wpQuiet_nil ?_
      clear c1 c2 k0 k1
      intro w1 hb1
      go_wp2_with fail
      go_ret2
      exact ⟨rfl, bto (hb0 _) hb1⟩
    · have hR : nextR d f t = (((nextN d f t : Nat) : Int), 0) := by unfold nextR; rw [if_pos h0, if_neg (by omega)]; simp only [Int.toNat_natCast]
      rw [hR]
      have h1' : ((t : Int) == (f : Int) + 1) = false := by simp; omega
      clear hR h0 hso hvd h1
      go_enter Try.func25, Try.ntmps25
      go_wp2_with fail
      refine wp_region_ext (by kernel_rfl) (by kernel_rfl) ?_
      repeat (first | go_big_quiet_step (first | exact c1 _ _ | exact c2 _ _) | quiet_step (first | exact c1 _ _ | exact c2 _ _))
      refine wpQuiet_nil ?_
      clear c1 c2 k0 k1
      intro w1 hb1
      obtain ⟨hc1, hf1⟩ := bcell hb1
      go_wp2_with (go_at_call 60; refine (reckW_any _ d _ (HV.out.below (bto (hb0 _) hb1)) HVD.out).mono ?_; rintro e w2 ⟨T, rfl, hT, hb2⟩; have hT1 := (hT f t (by omega) (by omega)).2; rw [entF_eq _ _ _ _ (by omega) (by omega)] at hT1; have HB2 := Lib.hid hb2; clear hT hb2 hc1 hf1)
      go_ret2
      exact ⟨rfl, bto (hb0 _) (bto hb1 HB2.out)⟩
  · have hR : nextR d f t = (0, askE d (someOf d f t)) := by unfold nextR; rw [if_neg h0]
    rw [hR]
    have h0' : (askE d (someOf d f t) != 0) = true := by simpa using h0
    clear hR h0
    go_enter Try.func25, Try.ntmps25
    go_wp2_with fail
    refine wp_region_ext (by kernel_rfl) (by kernel_rfl) ?_
    repeat (first | go_big_quiet_step (first | exact c1 _ _ | exact c2 _ _) | quiet_step (first | exact c1 _ _ | exact c2 _ _))
    refine wpQuiet_nil ?_
    clear c1 c2 k0 k1
    intro w1 hb1
    go_wp2_with fail
    go_ret2
    exact ⟨rfl, bto (hb0 _) hb1⟩
end Go.Proofs.Ytbddaemekgflmaa
