/- Walks of isStretch, isPoint, Path, Paid. -/
import Derived.Test.YtbddaemekgflmaaW7
import Derived.Maps.AppendAt
namespace Go.Proofs.Ytbddaemekgflmaa
open Go.RowKit Go.Sort

theorem Try.info3 : (Try.prog.info? 3).map (fun i => (i.zero, i.size, i.bytes)) = some (some (.int .i64 0), 1, 8) := by kernel_rfl

theorem keep_cell {W w1 : World} (hb : Below W.heap.size W w1) {b o : Nat} {v : Value} (h : W.cell? ⟨b, o, none⟩ = some v) : w1.cell? ⟨b, o, none⟩ = some v := by
  rw [hb.cell (p := ⟨b, o, none⟩) (World.block_lt_of_cell? W _ h)]; exact h

/-- A row of the call's own reads as a list of integers. -/
theorem Ints.of_own {w : World} {base e : Nat} {v : Value} {n : Nat} {xs : List Int} (h : w.ownsRow base e 1 v n (xs.map I)) : Ints w v xs := by
  have hl : xs.length = n := by have := h.1; simpa using this
  subst hl
  refine ⟨by simp, ?_⟩
  rcases h.2 with ⟨rfl, h0⟩ | ⟨g, cap, cur, rfl, hb, hg, h1, h2, h3, h4⟩
  · exact ⟨none, 0, by rw [h0], by omega, by omega, fun h => by omega⟩
  · refine ⟨some ⟨g, 0, none⟩, cap, rfl, h1, h2, fun hn => ⟨g, 0, rfl, fun j u hu => ?_⟩⟩
    have := h.cells (g := g) rfl j u hu
    have e : (⟨g, 0, none⟩ : Addr).add j = ⟨g, 0 + j, none⟩ := by unfold Addr.add; split <;> simp_all
    rwa [e] at this

set_option maxHeartbeats 400000 in
theorem isSt_any (v : Value) (d : DLine) (n : Int) (w : World) (hv : LineAt w v d) (hlen : d.odds.length ≤ 1000) :
    Calls Try.prog 80 #[v, I n] w fun e w' => e = .returned (.bool (isSt d n)) ∧ Below w.heap.size w w' := by
  obtain ⟨pv, ov, rfl, hp, ho⟩ := hv
  obtain ⟨A, c, rfl, _, _, _⟩ := ho.open_
  clear hp ho
  go_enter Try.func80, Try.ntmps80
  go_wp2_with (go_at_call 70; refine (within_any _ _ _ _).mono ?_; rintro e w' ⟨rfl, rfl⟩)
  go_ret
  exact ⟨rfl, (Below.refl _ _).alloc (Nat.le_refl _) _⟩

set_option maxHeartbeats 400000 in
theorem isPt_any (v : Value) (d : DLine) (n : Int) (w : World) (hv : LineAt w v d) (hlen : d.pts.length ≤ 1000) :
    Calls Try.prog 62 #[v, I n] w fun e w' => e = .returned (.bool (isPt d n)) ∧ Below w.heap.size w w' := by
  obtain ⟨pv, ov, rfl, hp, ho⟩ := hv
  obtain ⟨A, c, rfl, _, _, _⟩ := hp.open_
  clear hp ho
  go_enter Try.func62, Try.ntmps62
  go_wp2_with (go_at_call 70; refine (within_any _ _ _ _).mono ?_; rintro e w' ⟨rfl, rfl⟩)
  go_ret
  exact ⟨rfl, (Below.refl _ _).alloc (Nat.le_refl _) _⟩

theorem nextN_bd {d : DLine} {f t : Nat} (h : f + 1 < t) : f < nextN d f t ∧ nextN d f t < t := by
  unfold nextN
  rw [tab_eq]
  obtain ⟨h1, h2, _⟩ := (argmin_pt (tabG (worstP d) (t - f) f) f (t - f - 1)).2 (by omega)
  omega

theorem pathL_fuel (d : DLine) (s : Int) : ∀ k k' f t, t - f ≤ k → t - f ≤ k' → pathL d s k f t = pathL d s k' f t
  | 0, 0, _, _, _, _ => rfl
  | 0, k' + 1, f, t, h, _ => by unfold pathL; rw [if_neg (by omega)]
  | k + 1, 0, f, t, _, h => by unfold pathL; rw [if_neg (by omega)]
  | k + 1, k' + 1, f, t, h, h' => by
    unfold pathL
    by_cases h1 : f + 1 < t
    · have hb := nextN_bd (d := d) h1
      rw [if_pos h1, if_pos h1, pathL_fuel d s k k' f (nextN d f t) (by omega) (by omega), pathL_fuel d s k k' (nextN d f t) t (by omega) (by omega)]
    · rw [if_neg h1, if_neg h1]
theorem pathL_step (d : DLine) (s : Int) (f t : Nat) (h : f + 1 < t) : pathL d s (t - f) f t = (nextN d f t : Int) :: (if s < nextN d f t then pathL d s (nextN d f t - f) f (nextN d f t) else pathL d s (t - nextN d f t) (nextN d f t) t) := by
  have hb := nextN_bd (d := d) h
  obtain ⟨k, hk⟩ : ∃ k, t - f = k + 1 := ⟨t - f - 1, by omega⟩
  rw [hk, pathL, if_pos h, pathL_fuel d s k (nextN d f t - f) f _ (by omega) (by omega), pathL_fuel d s k (t - nextN d f t) _ t (by omega) (by omega)]

/-- Two results: a slice of integers, and an error. -/
def RetInts (w : World) (xs : List Int) (err : Int) (e : Ending) (w' : World) : Prop := ∃ v, e = .returned (.tuple #[v, I err]) ∧ Ints w' v xs ∧ Below w.heap.size w w'
/-- What Path returns. -/
def pathR (d : DLine) (s : Int) : List Int × Int := if askE d (isSt d s) = 0 then (pathL d s d.odds.length 0 d.odds.length, 0) else ([], askE d (isSt d s))

set_option maxRecDepth 20000 in
set_option maxHeartbeats 2000000 in
theorem path_any (v : Value) (d : DLine) (s : Int) (w : World) (hv : LineAt w v d) (hlen : d.odds.length ≤ 1000) :
    Calls Try.prog 40 #[v, I s] w (RetInts w (pathR d s).1 (pathR d s).2) := by
  obtain ⟨i0, hi, hz0, hz1, hz2⟩ := info_parts Try.info3
  have HV := Lib.hid hv
  obtain ⟨pv, ov, rfl, hp, ho⟩ := hv
  obtain ⟨A, c, rfl, hnc, hcm, _⟩ := ho.open_
  have hb0 : ∀ x, Below w.heap.size w (w.alloc x) := fun x => (Below.refl _ _).alloc (Nat.le_refl _) _
  clear hp ho
  have k0 := cell_regrown (box_cell w #[pv, .slice A d.odds.length c] 25 0 rfl)
  have k1 := cell_regrown (box_cell w #[pv, .slice A d.odds.length c] 25 1 rfl)
  have c1 := ext_call (w := w.alloc (.cells #[pv, .slice A d.odds.length c] 25)) fun W hW => isSt_any _ d s W (HV.out.below (bto (hb0 _) hW)) hlen
  have c2 := ext_call (w := w.alloc (.cells #[pv, .slice A d.odds.length c] 25)) fun W hW => ask_any _ d (isSt d s) W (HV.out.below (bto (hb0 _) hW)) hlen
  by_cases h0 : askE d (isSt d s) = 0
  · obtain ⟨hvd, hso⟩ := askE_ok h0
    have hR : pathR d s = (pathL d s d.odds.length 0 d.odds.length, 0) := by unfold pathR; rw [if_pos h0]
    rw [hR]
    rw [h0] at c2
    obtain ⟨hn, -⟩ := valid_spec hvd
    have HSO := Lib.hid hso
    have HVD := Lib.hid hvd
    clear hR h0 hso hvd
    go_enter Try.func40, Try.ntmps40
    go_wp2_with fail
    refine wp_region_ext (by kernel_rfl) (by kernel_rfl) ?_
    repeat (first | go_big_quiet_step (first | exact c1 _ _ | exact c2 _ _) | quiet_step (first | exact c1 _ _ | exact c2 _ _))
    refine wpQuiet_nil ?_
    clear c1 c2 k0 k1
    intro w1 hb1
    obtain ⟨hc1, hf1⟩ := bcell hb1
    go_wp2_with (go_at_call 60; refine (reckW_any _ d _ (HV.out.below (bto (hb0 _) hb1)) HVD.out).mono ?_; rintro e w2 ⟨T, rfl, hT, hb2⟩; have hc2 := keep_cell hb2 (keep_cell hb1 (box_cell w #[pv, .slice A d.odds.length c] 25 1 rfl)); have HT := Lib.hid hT; have HB2 := Lib.hid hb2; clear hT hb2 hc1 hf1)
    have k2 := cell_regrown hc2
    refine wp_region_ext (by kernel_rfl) (by kernel_rfl) ?_
    repeat (first | go_big_quiet_step (fail) | quiet_step (fail))
    refine wpQuiet_nil ?_
    clear k2 hc2
    intro w3 hb3
    have hst : 0 < d.odds.length := by
      have := HSO.out
      simp [isSt, inR] at this
      omega
    have HT3 := Lib.hid (fun (f t : Nat) (h : f < t) (h' : t ≤ d.odds.length) => show w3.cell? ⟨T, f * 16 + t * 2 + 1, none⟩ = some (I (nextN d f t)) by
      have h1 := (HT.out f t (by omega) (by omega)).2
      rw [entF_eq _ _ _ _ h h'] at h1
      rw [(bcell hb3).1 _ _ (World.block_lt_of_cell? w2 _ h1)]
      exact h1)
    go_wp2_with fail
    go_loopw [8, 9, 10] (fun out fr to wr => ∃ (acc : List Int) (f t : Nat), f < t ∧ t ≤ d.odds.length ∧ fr = I f ∧ to = I t ∧ acc.length + (t - f) ≤ d.odds.length ∧ acc ++ pathL d s (t - f) f t = pathL d s d.odds.length 0 d.odds.length ∧ wr.ownsRow w3.heap.size 3 1 out acc.length (acc.map I) ∧ Below w3.heap.size w3 wr) (fun _ fr to _ => (intOf to).toNat - (intOf fr).toNat)
    case atStart => exact ⟨[], 0, d.odds.length, hst, by omega, rfl, rfl, by simp, by simp, World.ownsRow_nil _ _ _ _, Below.refl _ _⟩
    case round =>
      obtain ⟨acc, f, t, hft, htn, rfl, rfl, hal, hacc, hown, hbw⟩ := hrel
      by_cases h1 : f + 1 < t
      · have ht := HT3.out f t hft htn
        rw [← hbw.cell (p := ⟨T, _, none⟩) (World.block_lt_of_cell? w3 _ ht)] at ht
        rw [pathL_step d s f t h1] at hacc
        obtain ⟨hp1, hp2⟩ := nextN_bd (d := d) h1
        generalize hpn : nextN d f t = p at *
        have HP := Lib.hid hpn
        have HA := Lib.hid hacc
        clear hpn hacc
        have HW := Lib.hid hbw
        clear hbw
        by_cases hsp : s < p
        · go_wp2_with (at_builtin; refine wpList_append_own _ rfl _ _ 23 rfl w3.heap.size 3 i0 (.int .i64 0) 1 8 Try.underlying23 hi hz0 hz1 hz2 rfl (by decide) _ _ _ rfl (hown.alloc _) ⟨wr.heap.size, 0, none⟩ 1 1 [I p] rfl rfl (cell_one_new _ _ _) (by simp [Value.oneCell']) (by simp only [maxLen]; omega) (by omega) (by have := HW.out.size; simp; omega) ?_; intro v' w4 hown' hgrow _)
          go_roundw
          case rel => exact ⟨acc ++ [(p : Int)], f, p, by omega, by omega, rfl, rfl, by simp; omega, by have := HA.out; rw [if_pos hsp] at this; simpa using this, by simpa using hown', ((HW.out.alloc HW.out.size _).grown hgrow (by have := HW.out.size; simp; omega) (fun k hk => (hown.lt k hk).1))⟩
          case measure => simp [intOf]; omega
        · go_wp2_with (at_builtin; refine wpList_append_own _ rfl _ _ 23 rfl w3.heap.size 3 i0 (.int .i64 0) 1 8 Try.underlying23 hi hz0 hz1 hz2 rfl (by decide) _ _ _ rfl (hown.alloc _) ⟨wr.heap.size, 0, none⟩ 1 1 [I p] rfl rfl (cell_one_new _ _ _) (by simp [Value.oneCell']) (by simp only [maxLen]; omega) (by omega) (by have := HW.out.size; simp; omega) ?_; intro v' w4 hown' hgrow _)
          go_roundw
          case rel => exact ⟨acc ++ [(p : Int)], p, t, by omega, by omega, rfl, rfl, by simp; omega, by have := HA.out; rw [if_neg hsp] at this; simpa using this, by simpa using hown', ((HW.out.alloc HW.out.size _).grown hgrow (by have := HW.out.size; simp; omega) (fun k hk => (hown.lt k hk).1))⟩
          case measure => simp [intOf]; omega
      · have he : acc = pathL d s d.odds.length 0 d.odds.length := by
          rw [← hacc, show t - f = 1 from by omega, pathL, if_neg h1, List.append_nil]
        have HE := Lib.hid he
        clear he hacc
        go_wp2_with fail
        go_ret2
        exact ⟨_, rfl, by rw [← HE.out]; exact Ints.of_own hown, bto (hb0 _) (bto hb1 (bto HB2.out (bto hb3 hbw)))⟩
  · have hR : pathR d s = ([], askE d (isSt d s)) := by unfold pathR; rw [if_neg h0]
    rw [hR]
    have h0' : (askE d (isSt d s) != 0) = true := by simpa using h0
    clear hR h0
    go_enter Try.func40, Try.ntmps40
    go_wp2_with fail
    refine wp_region_ext (by kernel_rfl) (by kernel_rfl) ?_
    repeat (first | go_big_quiet_step (first | exact c1 _ _ | exact c2 _ _) | quiet_step (first | exact c1 _ _ | exact c2 _ _))
    refine wpQuiet_nil ?_
    clear c1 c2 k0 k1
    intro w1 hb1
    go_wp2_with fail
    go_ret2
    exact ⟨_, rfl, ⟨rfl, none, 0, rfl, by simp, by omega, fun h => absurd h (by simp)⟩, bto (hb0 _) hb1⟩
end Go.Proofs.Ytbddaemekgflmaa
