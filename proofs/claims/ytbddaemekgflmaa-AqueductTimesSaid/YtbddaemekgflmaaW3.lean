/- Walks of the two measures' part. -/
import Derived.Test.YtbddaemekgflmaaW2
namespace Go.Proofs.Ytbddaemekgflmaa
open Go.RowKit Go.Sort

theorem costAt_eq {d : DLine} {p : Nat} (h : p < d.pts.length) : costAt d p = d.pts[p].cost := by simp [costAt, List.getElem?_eq_getElem h]

set_option maxHeartbeats 400000 in
theorem partW_any (v : Value) (d : DLine) (f p t b a : Int) (w : World) (hv : LineAt w v d) (h0 : 0 ≤ p) (hp : p < d.pts.length) (hc : ∀ x ∈ d.pts, 0 ≤ x.cost ∧ x.cost ≤ 20) (hb : 0 ≤ b) (hb' : b ≤ 1000000) (ha : 0 ≤ a) (ha' : a ≤ 1000000) :
    Calls Try.prog 103 #[v, I f, I p, I t, I b, I a] w fun e w' => e = .returned (I (worstP d f.toNat p.toNat t.toNat b a)) ∧ Below w.heap.size w w' := by
  obtain ⟨p, rfl⟩ := Int.eq_ofNat_of_zero_le h0
  simp only [Int.toNat_natCast]
  obtain ⟨pv, ov, rfl, hpp, ho⟩ := hv
  obtain ⟨A, c, rfl, hnc, hcm, hcell⟩ := hpp.open_
  obtain ⟨B, o, rfl, hbl, hcell⟩ := hcell (by omega)
  have hp' : p < d.pts.length := by omega
  obtain ⟨_, _, hk⟩ := hcell p hp'
  obtain ⟨hc1, hc2⟩ := hc _ (List.getElem_mem hp')
  have hb0 : ∀ x, Below w.heap.size w (w.alloc x) := fun x => (Below.refl _ _).alloc (Nat.le_refl _) _
  have he := Lib.hid (costAt_eq hp')
  clear hcell hc hpp ho
  by_cases hab : a ≤ b
  · have hm : max b a = b := by omega
    go_enter Try.func103, Try.ntmps103
    go_wp2_with fail
    go_ret
    exact ⟨by unfold worstP; rw [he.out]; simp [hm], hb0 _⟩
  · have hm : max b a = a := by omega
    go_enter Try.func103, Try.ntmps103
    go_wp2_with fail
    go_ret
    exact ⟨by unfold worstP; rw [he.out]; simp [hm], hb0 _⟩

set_option maxHeartbeats 1000000 in
theorem partS_any (v : Value) (d : DLine) (f p t b a : Int) (w : World) (hv : LineAt w v d) (hf0 : 0 ≤ f) (h0 : f < p) (hpt : p < t) (ht : t ≤ d.odds.length) (hp : p < d.pts.length) (hc : ∀ x ∈ d.pts, 0 ≤ x.cost ∧ x.cost ≤ 20) (hx : ∀ x ∈ d.odds, 0 ≤ x ∧ x ≤ 9) (hn : d.odds.length ≤ 1000)
    (hb : 0 ≤ b) (hb' : b ≤ 1000000) (ha : 0 ≤ a) (ha' : a ≤ 1000000) :
    Calls Try.prog 104 #[v, I f, I p, I t, I b, I a] w fun e w' => e = .returned (I (sumP d f.toNat p.toNat t.toNat b a)) ∧ Below w.heap.size w w' := by
  obtain ⟨p, rfl⟩ := Int.eq_ofNat_of_zero_le (show 0 ≤ p by omega)
  obtain ⟨f, rfl⟩ := Int.eq_ofNat_of_zero_le hf0
  obtain ⟨t, rfl⟩ := Int.eq_ofNat_of_zero_le (show 0 ≤ t by omega)
  simp only [Int.toNat_natCast]
  have HV := Lib.hid hv
  obtain ⟨pv, ov, rfl, hpp, ho⟩ := hv
  obtain ⟨A, c, rfl, hnc, hcm, hcell⟩ := hpp.open_
  obtain ⟨B, o, rfl, hbl, hcell⟩ := hcell (by omega)
  have hp' : p < d.pts.length := by omega
  obtain ⟨_, _, hk⟩ := hcell p hp'
  obtain ⟨hc1, hc2⟩ := hc _ (List.getElem_mem hp')
  have hb0 : ∀ x, Below w.heap.size w (w.alloc x) := fun x => (Below.refl _ _).alloc (Nat.le_refl _) _
  have he := Lib.hid (costAt_eq hp')
  obtain ⟨ho1, ho2⟩ := oddsOf_bd d f t hx
  obtain ⟨hm1, hm2⟩ := mul_bd hc1 hc2 ho1 (show oddsOf d f t ≤ 9000 by omega)
  have HX := Lib.hid hx
  clear hcell hc hpp ho hx
  go_enter Try.func104, Try.ntmps104
  go_wp2_with fail

  have k0 := cell_regrown (box_cell w #[.slice (some ⟨B, o, none⟩) d.pts.length c, ov] 81 0 rfl)
  have k1 := cell_regrown (box_cell w #[.slice (some ⟨B, o, none⟩) d.pts.length c, ov] 81 1 rfl)
  have k2 := cell_regrown (box_old w (.cells #[.slice (some ⟨B, o, none⟩) d.pts.length c, ov] 81) hk)
  have c1 := ext_call (w := w.alloc (.cells #[.slice (some ⟨B, o, none⟩) d.pts.length c, ov] 81)) fun W hW => odds_any _ d f t W (HV.out.below (bto (hb0 _) hW)) (by omega) (by omega) ht HX.out hn
  simp only [Int.toNat_natCast] at c1
  refine wp_region_ext (by kernel_rfl) (by kernel_rfl) ?_
  repeat (first | go_big_quiet_step (exact c1 _ _) | quiet_step (exact c1 _ _))
  refine wpQuiet_nil ?_
  intro w1 hb1
  go_wp2_with fail
  go_ret
  exact ⟨by unfold sumP; rw [he.out]; rfl, bto (hb0 _) hb1⟩
end Go.Proofs.Ytbddaemekgflmaa
