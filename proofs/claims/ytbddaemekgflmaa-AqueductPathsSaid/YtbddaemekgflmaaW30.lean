/- What a path costs: walks of Paid, CostOf, and of the reference's Paid. -/
import Derived.Test.YtbddaemekgflmaaW29
import Derived.Test.YtbddaemekgflmaaW16
namespace Go.Proofs.Ytbddaemekgflmaa
open Go.RowKit Go.Sort

def sumCost (d : DLine) : List Int → Int
  | [] => 0
  | x :: l => costAt d x.toNat + sumCost d l
theorem sumCost_snoc (d : DLine) : ∀ (l : List Int) (x : Int), sumCost d (l ++ [x]) = sumCost d l + costAt d x.toNat
  | [], x => by simp [sumCost]
  | y :: l, x => by simp [sumCost, sumCost_snoc d l x]; omega
theorem sumCost_bd {d : DLine} (h : valid d = true) : ∀ l : List Int, 0 ≤ sumCost d l ∧ sumCost d l ≤ 20 * l.length
  | [] => by simp [sumCost]
  | x :: l => by
    have h1 := sumCost_bd h l
    have h2 := costAt_bd h x.toNat
    simp only [sumCost, List.length_cons]
    omega
theorem pathL_in (d : DLine) (s : Int) : ∀ k f t x, x ∈ pathL d s k f t → (f : Int) < x ∧ x < (t : Int)
  | 0, _, _, x, h => by simp [pathL] at h
  | k + 1, f, t, x, h => by
    unfold pathL at h
    by_cases h1 : f + 1 < t
    · rw [if_pos h1] at h
      obtain ⟨b1, b2⟩ := nextN_bd (d := d) h1
      rcases List.mem_cons.1 h with h | h
      · subst h; omega
      · split at h
        · have := pathL_in d s k f _ x h; omega
        · have := pathL_in d s k _ t x h; omega
    · rw [if_neg h1] at h; cases h
theorem pathL_len (d : DLine) (s : Int) : ∀ k f t, (pathL d s k f t).length ≤ t - f
  | 0, _, _ => by simp [pathL]
  | k + 1, f, t => by
    unfold pathL
    by_cases h1 : f + 1 < t
    · rw [if_pos h1]
      obtain ⟨b1, b2⟩ := nextN_bd (d := d) h1
      simp only [List.length_cons]
      split
      · have := pathL_len d s k f (nextN d f t); omega
      · have := pathL_len d s k (nextN d f t) t; omega
    · rw [if_neg h1]; simp
def paidR (d : DLine) (s : Int) : Int × Int := if (pathR d s).2 = 0 then (sumCost d (pathR d s).1, 0) else (0, (pathR d s).2)
theorem pathR_ok {d : DLine} {s : Int} (h : (pathR d s).2 = 0) : valid d = true ∧ isSt d s = true ∧ (∀ x ∈ (pathR d s).1, 0 ≤ x ∧ x < d.pts.length) ∧ (pathR d s).1.length ≤ 7 := by
  unfold pathR at h ⊢
  by_cases h0 : askE d (isSt d s) = 0
  · obtain ⟨h1, h2⟩ := askE_ok h0
    obtain ⟨v1, v2, _⟩ := valid_spec h1
    rw [if_pos h0]
    refine ⟨h1, h2, fun x hx => ?_, ?_⟩
    · have := pathL_in d s _ _ _ x hx
      omega
    · have := pathL_len d s d.odds.length 0 d.odds.length
      show (pathL d s d.odds.length 0 d.odds.length).length ≤ 7
      omega
  · rw [if_neg h0] at h
    exact absurd h h0

set_option maxRecDepth 20000 in
set_option maxHeartbeats 2000000 in
theorem costOf_any (v lv : Value) (d : DLine) (l : List Int) (w : World) (hv : LineAt w v d) (hl : Ints w lv l) (hvd : valid d = true) (hin : ∀ x ∈ l, 0 ≤ x ∧ x < d.pts.length) (hlen : l.length ≤ 1000) :
    Calls Try.prog 54 #[v, lv] w fun e w' => e = .returned (I (sumCost d l)) ∧ Below w.heap.size w w' := by
  obtain ⟨pv, ov, rfl, hp, ho⟩ := hv
  obtain ⟨A', c2, rfl, hac', hcm', hpc⟩ := id hp.open_
  obtain ⟨Al, cl, rfl, hal, hcl, hlc⟩ := id hl.open_
  have HPC := Lib.hid hpc
  have HLC := Lib.hid hlc
  have HVD := Lib.hid hvd
  have HIN := Lib.hid hin
  have B0 := Box2.new w (.slice A' d.pts.length c2) ov 25
  obtain ⟨w0, hw0⟩ : ∃ w0, w.alloc (.cells #[.slice A' d.pts.length c2, ov] 25) = w0 := ⟨_, rfl⟩
  have hbw : Below w.heap.size w (w.alloc (.cells #[.slice A' d.pts.length c2, ov] 25)) := (Below.refl _ _).alloc (Nat.le_refl _) _
  rw [hw0] at B0 hbw
  have HB := Lib.hid B0
  have HBW := Lib.hid hbw
  have HW0 := Lib.hid hw0
  clear hp ho hl hpc hlc hvd hin B0 hbw hw0
  go_enter Try.func54, Try.ntmps54
  go_wp2_with fail
  rw [HW0.out]
  go_loopw [5, 6] (fun s i wr => ∃ k : Nat, k ≤ l.length ∧ i = I k ∧ s = I (sumCost d (l.take k)) ∧ Hid (Below w0.heap.size w0 wr)) (fun _ i _ => l.length - (intOf i).toNat)
  case atStart => exact ⟨0, by omega, rfl, rfl, Lib.hid (Below.refl _ _)⟩
  case round =>
    obtain ⟨k, hk, rfl, rfl, hW⟩ := hrel
    by_cases hlt : k < l.length
    · obtain ⟨x0, x1⟩ := HIN.out _ (List.getElem_mem hlt)
      obtain ⟨b1, o1, e1, _, hc1⟩ := HLC.out (by omega)
      have z0 := keep_cell hW.out (keep_cell HBW.out (hc1 k hlt))
      have HS := Lib.hid (show sumCost d (l.take (k + 1)) = sumCost d (l.take k) + costAt d l[k].toNat by rw [List.take_succ_eq_append_getElem hlt, sumCost_snoc])
      have bs := sumCost_bd HVD.out (l.take k)
      have hln : (l.take k).length = k := by simp; omega
      rw [hln] at bs
      obtain ⟨q, hq⟩ := Int.eq_ofNat_of_zero_le x0
      rw [hq] at z0 x1 HS
      rw [Int.toNat_natCast] at HS
      have hql : q < d.pts.length := by omega
      obtain ⟨b2, o2, e2, _, hc2⟩ := HPC.out (by omega)
      have z1 := keep_cell hW.out (keep_cell HBW.out (hc2 q hql).2.2)
      have hce : costAt d q = d.pts[q].cost := by unfold costAt; rw [List.getElem?_eq_getElem hql]; rfl
      have bc := costAt_bd HVD.out q
      rw [← hce] at z1
      obtain ⟨C, hC⟩ : ∃ C, costAt d q = C := ⟨_, rfl⟩
      obtain ⟨S, hS⟩ : ∃ S, sumCost d (l.take k) = S := ⟨_, rfl⟩
      rw [hC] at z1 bc HS
      rw [hS] at bs HS ⊢
      obtain ⟨bs1, bs2⟩ := bs
      obtain ⟨bc1, bc2⟩ := bc
      subst e1
      subst e2
      have j0 := cell_regrown (HB.out.keep hW.out).c0
      have j1 := cell_regrown z0
      have j2 := cell_regrown z1
      have i1 : (k : Int) < (l.length : Int) := by omega
      have i2 : (q : Int) < (d.pts.length : Int) := by omega
      clear z0 z1 hc1 hc2 hce hC hS hq hln x0
      go_wp2_with fail
      refine wp_region_ext (by kernel_rfl) (by kernel_rfl) ?_
      repeat (first | go_big_quiet_step (fail) | quiet_step (fail))
      refine wpQuiet_nil ?_
      clear j0 j1 j2
      intro wn hb
      have HBN := Lib.hid hb
      clear hb
      go_wp2_with fail
      go_roundw
      case rel => exact ⟨k + 1, by omega, by go_num, by rw [HS.out], Lib.hid (bto hW.out HBN.out)⟩
      case measure => first | (simp [intOf]; done) | (simp [intOf]; omega)
    · have HK := Lib.hid (show l.take k = l from List.take_of_length_le (by omega))
      go_wp2_with fail
      go_ret
      exact ⟨by rw [HK.out]; rfl, bto HBW.out hW.out⟩
end Go.Proofs.Ytbddaemekgflmaa
