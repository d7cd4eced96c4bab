/- Walk of the reference's One. -/
import Derived.Test.YtbddaemekgflmaaW35
import Derived.Test.YtbddaemekgflmaaW22
namespace Go.Proofs.Ytbddaemekgflmaa
open Go.RowKit Go.Sort

theorem Box2.grown {w w' : World} {B : Nat} {u0 u1 : Value} {row : Option Nat} (h : Box2 w B u0 u1) (hg : w.grownBy w' row) (hr : row ≠ some B) : Box2 w' B u0 u1 := by
  have e := hg.block B h.lt (fun e => hr e.symm)
  exact ⟨by rw [World.cell?_of_block e]; exact h.c0, by rw [World.cell?_of_block e]; exact h.c1, by rw [World.frozen?_of_block e]; exact h.f0, by rw [World.frozen?_of_block e]; exact h.f1⟩
def hiA (d : DLine) (k : Nat) : List Int := (List.range k).map fun i => hiPre d.pts (i + 1)
theorem hiA_len (d : DLine) (k : Nat) : (hiA d k).length = k := by simp [hiA]
theorem hiA_succ (d : DLine) (k : Nat) : hiA d (k + 1) = hiA d k ++ [hiPre d.pts (k + 1)] := by simp [hiA, List.range_succ]
theorem hiA_get (d : DLine) (k i : Nat) (h : i < k) : (hiA d k)[i]? = some (hiPre d.pts (i + 1)) := by simp [hiA, h]
theorem own_cell {w : World} {B e n g cap : Nat} {xs : List Int} (h : w.ownsRow B e 1 (.slice (some ⟨g, 0, none⟩) n cap) n (xs.map I)) (i : Nat) (x : Int) (hx : xs[i]? = some x) : w.cell? ⟨g, i, none⟩ = some (I x) := by
  have hl := h.1
  rw [List.length_map] at hl
  have hi := (List.getElem?_eq_some_iff.1 hx).1
  rw [h.cellAt i (by omega)]
  rw [List.getElem?_map, hx]; rfl

set_option maxRecDepth 20000 in
set_option maxHeartbeats 2000000 in
theorem one_any (v : Value) (d : DLine) (w : World) (hv : LineAt w v d) (hvd : valid d = true) :
    Calls Try.prog 47 #[v] w fun e w' => e = .returned (.bool (oneB d)) ∧ Below w.heap.size w w' := by
  obtain ⟨i0, hi, hz0, hz1, hz2⟩ := info_parts Try.info3
  have HV := Lib.hid hv
  obtain ⟨pv, ov, rfl, hp, ho⟩ := hv
  obtain ⟨A, c, rfl, hac, hcm, ha⟩ := hp.open_
  have hn7 := (valid_spec hvd).1
  have hpn := (valid_spec hvd).2.1
  have hn : d.pts.length ≤ 8 := by omega
  have HVD := Lib.hid hvd
  have hb0 : ∀ x, Below w.heap.size w (w.alloc x) := fun x => (Below.refl _ _).alloc (Nat.le_refl _) _
  have HA := Lib.hid ha
  have B0 := Box2.new w (.slice A d.pts.length c) ov 25
  have HB0 := Lib.hid B0
  have HBW := Lib.hid (hb0 (.cells #[.slice A d.pts.length c, ov] 25))
  clear hp ho ha hpn hvd hn7
  obtain ⟨x0, x1, x2, x3⟩ := B0
  go_enter Try.func47, Try.ntmps47
  go_wp2_with fail
  go_loopw [3, 4] (fun out i wr => ∃ (k : Nat) (Ao : Option Addr) (co : Nat), k ≤ d.pts.length ∧ i = I k ∧ out = .slice Ao k co ∧ wr.ownsRow (w.heap.size + 1) 3 1 (.slice Ao k co) k ((hiA d k).map I) ∧ Hid (Box2 wr w.heap.size (.slice A d.pts.length c) ov) ∧ Hid (Below w.heap.size w wr)) (fun _ i _ => d.pts.length - (intOf i).toNat)
  case atStart => exact ⟨0, none, 0, by omega, rfl, rfl, World.ownsRow_nil _ _ _ _, HB0, HBW⟩
  case round =>
    clear x0 x1 x2 x3 HB0 HBW
    obtain ⟨k, Ao, co, hk, rfl, rfl, hown, HB, HW⟩ := hrel
    have hsz := HB.out.lt
    obtain ⟨x0, x1, x2, x3⟩ := id HB.out
    by_cases hlt : k < d.pts.length
    · obtain ⟨b, o, rfl, hbl, hcell⟩ := HA.out (by omega)
      have y1 := keep_cell HW.out (hcell k hlt).2.1
      have hbr := World.block_lt_of_cell? wr _ y1
      have HS := Lib.hid (hiPre_succ d.pts k hlt)
      have HBD := Lib.hid (hiPre_bd HVD.out k)
      have HPT := Lib.hid ((valid_spec HVD.out).2.2.1 _ (List.getElem_mem hlt))
      have HGR := Lib.hid (hiA_succ d k)
      by_cases hk0 : 0 < k
      · obtain ⟨g, cap, hsl, hg1, hg2⟩ := own_shape_pos hown hk0
        obtain ⟨rfl, -, rfl⟩ := slice_inj hsl
        have z0 := own_cell hown (k - 1) _ (hiA_get d k (k - 1) (by omega))
        rw [show k - 1 + 1 = k by omega] at z0
        have i0' : IntKind.i64.wrap ((k : Int) - 1) = ((k - 1 : Nat) : Int) := by rw [IntWalk.i64_in _ (by omega)]; omega
        have i1 : ((k : Int) - 1).toNat = k - 1 := by omega
        clear hcell
        by_cases hm : d.pts[k].hi ≤ hiPre d.pts k
        · have HE := Lib.hid (show hiPre d.pts (k + 1) = d.pts[k].hi by rw [HS.out]; omega)
          go_wp2_with (at_builtin; refine wpList_append_own _ rfl _ _ 23 rfl (w.heap.size + 1) 3 i0 (.int .i64 0) 1 8 Try.underlying23 hi hz0 hz1 hz2 rfl (by decide) _ _ _ rfl (hown.alloc _) ⟨wr.heap.size, 0, none⟩ 1 1 [I d.pts[k].hi] rfl rfl (cell_one_new _ _ _) (by simp [Value.oneCell']) (by simp only [maxLen]; omega) (by omega) (by simp; omega) ?_; intro v' w4 hown' hgrow _; obtain ⟨A1, c1, rfl⟩ := own_shape hown')
          go_roundw
          case rel => exact ⟨k + 1, _, _, by omega, by go_num, rfl, by rw [HGR.out, HE.out]; simpa using hown', Lib.hid ((HB.out.old _).grown hgrow (by
            intro e; have := (hown.lt _ e).1; omega)), Lib.hid ((HW.out.alloc HW.out.size _).grown hgrow (by have := HW.out.size; simp; omega) (fun k hk => by have := (hown.lt k hk).1; omega))⟩
          case measure => simp [intOf]; omega
        · have HE := Lib.hid (show hiPre d.pts (k + 1) = hiPre d.pts k by rw [HS.out]; omega)
          go_wp2_with (at_builtin; refine wpList_append_own _ rfl _ _ 23 rfl (w.heap.size + 1) 3 i0 (.int .i64 0) 1 8 Try.underlying23 hi hz0 hz1 hz2 rfl (by decide) _ _ _ rfl (hown.alloc _) ⟨wr.heap.size, 0, none⟩ 1 1 [I (hiPre d.pts k)] rfl rfl (cell_one_new _ _ _) (by simp [Value.oneCell']) (by simp only [maxLen]; omega) (by omega) (by simp; omega) ?_; intro v' w4 hown' hgrow _; obtain ⟨A1, c1, rfl⟩ := own_shape hown')
          go_roundw
          case rel => exact ⟨k + 1, _, _, by omega, by go_num, rfl, by rw [HGR.out, HE.out]; simpa using hown', Lib.hid ((HB.out.old _).grown hgrow (by
            intro e; have := (hown.lt _ e).1; omega)), Lib.hid ((HW.out.alloc HW.out.size _).grown hgrow (by have := HW.out.size; simp; omega) (fun k hk => by have := (hown.lt k hk).1; omega))⟩
          case measure => simp [intOf]; omega
      · have hk00 : k = 0 := by omega
        have HE := Lib.hid (show hiPre d.pts (k + 1) = d.pts[k].hi by
          have h1 := HPT.out
          have e : hiPre d.pts k = 99 := by rw [hk00]; rfl
          rw [HS.out, e]; omega)
        clear hcell hk00
        go_wp2_with (at_builtin; refine wpList_append_own _ rfl _ _ 23 rfl (w.heap.size + 1) 3 i0 (.int .i64 0) 1 8 Try.underlying23 hi hz0 hz1 hz2 rfl (by decide) _ _ _ rfl (hown.alloc _) ⟨wr.heap.size, 0, none⟩ 1 1 [I d.pts[k].hi] rfl rfl (cell_one_new _ _ _) (by simp [Value.oneCell']) (by simp only [maxLen]; omega) (by omega) (by simp; omega) ?_; intro v' w4 hown' hgrow _; obtain ⟨A1, c1, rfl⟩ := own_shape hown')
        go_roundw
        case rel => exact ⟨k + 1, _, _, by omega, by go_num, rfl, by rw [HGR.out, HE.out]; simpa using hown', Lib.hid ((HB.out.old _).grown hgrow (by
            intro e; have := (hown.lt _ e).1; omega)), Lib.hid ((HW.out.alloc HW.out.size _).grown hgrow (by have := HW.out.size; simp; omega) (fun k hk => by have := (hown.lt k hk).1; omega))⟩
        case measure => simp [intOf]; omega
    · obtain rfl : k = d.pts.length := by omega
      have HI := Lib.hid (show Ints wr (.slice Ao d.pts.length co) (hiL d) by
        have h := Ints.of_own hown
        exact h)
      clear hown
      go_wp2_with (go_at_call 55; refine (isTruth_any _ _ d (hiL d) _ (HV.out.below HW.out) HI.out (by omega) (by simp [hiL]; omega)).mono ?_; rintro e w' ⟨rfl, hb⟩)
      go_ret
      exact ⟨rfl, bto HW.out hb⟩
end Go.Proofs.Ytbddaemekgflmaa
