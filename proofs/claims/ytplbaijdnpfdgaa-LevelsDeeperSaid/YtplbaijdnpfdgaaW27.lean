/- Walk: Same of two equal towns. -/
import Derived.Test.YtplbaijdnpfdgaaW22
namespace Go.Proofs.Ytplbaijdnpfdgaa
open Go.RowKit Go.Sort

set_option maxRecDepth 20000 in
set_option maxHeartbeats 4000000 in
theorem lSame_any (v v' : Value) (t : Twn) (w : World) (hv : TwnAt w v t) (hv' : TwnAt w v' t) :
    Calls Try.prog 24 #[v, v'] w fun e w' => e = .returned (.bool true) ∧ Below w.heap.size w w' := by
  obtain ⟨sv, pv, rfl, hs, hp⟩ := hv
  obtain ⟨A1, c1, rfl, hsl1, hsl2, hc1⟩ := hs.open_
  obtain ⟨A2, c2, rfl, hpl1, hpl2, hc2⟩ := hp.open_
  have HSN := Lib.hid hs
  have HSP := Lib.hid hp
  have HC1 := Lib.hid hc1
  have HC2 := Lib.hid hc2
  clear hc1 hc2 hs hp
  obtain ⟨sv', pv', rfl, hs', hp'⟩ := hv'
  obtain ⟨A3, c3, rfl, -, -, hc3⟩ := hs'.open_
  obtain ⟨A4, c4, rfl, -, -, hc4⟩ := hp'.open_
  have HC3 := Lib.hid hc3
  have HC4 := Lib.hid hc4
  clear hc3 hc4 hs' hp'
  have S := Lib.hid (show St w ((w.alloc (.cells #[I t.wells, .slice A1 t.snd.length c1, .slice A2 t.slp.length c2] 25)).alloc (.cells #[I t.wells, .slice A3 t.snd.length c3, .slice A4 t.slp.length c4] 25)) (w.heap.size + 1 + 1) [.box (w.heap.size + 1) [I t.wells, .slice A3 t.snd.length c3, .slice A4 t.slp.length c4], .box w.heap.size [I t.wells, .slice A1 t.snd.length c1, .slice A2 t.slp.length c2]] from ((St.init w).alloc [I t.wells, .slice A1 t.snd.length c1, .slice A2 t.slp.length c2] 25).alloc [I t.wells, .slice A3 t.snd.length c3, .slice A4 t.slp.length c4] 25)
  have q0 := S.out.get 1 0 rfl rfl
  have q1 := S.out.get 1 1 rfl rfl
  have q2 := S.out.get 1 2 rfl rfl
  have p0 := S.out.get 0 0 rfl rfl
  have p1 := S.out.get 0 1 rfl rfl
  have p2 := S.out.get 0 2 rfl rfl
  go_enter Try.func24, Try.ntmps24
  go_wp2_with fail
  go_loopw [5] (fun i wr => ∃ k : Nat, k ≤ t.snd.length ∧ i = I k ∧ Hid (St w wr wr.heap.size [.box (w.heap.size + 1) [I t.wells, .slice A3 t.snd.length c3, .slice A4 t.slp.length c4], .box w.heap.size [I t.wells, .slice A1 t.snd.length c1, .slice A2 t.slp.length c2]])) (fun i _ => t.snd.length - (intOf i).toNat)
  case atStart => exact ⟨0, by omega, rfl, Lib.hid S.out.fix⟩
  case round =>
    clear q0 q1 q2 p0 p1 p2 S
    obtain ⟨k, hk, rfl, S⟩ := hrel
    have q0 := S.out.get 1 0 rfl rfl
    have q1 := S.out.get 1 1 rfl rfl
    have q2 := S.out.get 1 2 rfl rfl
    have p0 := S.out.get 0 0 rfl rfl
    have p1 := S.out.get 0 1 rfl rfl
    have p2 := S.out.get 0 2 rfl rfl
    by_cases hlt : k < t.snd.length
    · obtain ⟨b1, o1, rfl, hb1, hcell1⟩ := HC1.out (by omega)
      obtain ⟨b2, o2, rfl, hb2, hcell2⟩ := HC3.out (by omega)
      obtain ⟨x0, x1, x2⟩ := hcell1 k hlt
      obtain ⟨y0, y1, y2⟩ := hcell2 k hlt
      have x0 := cell_regrown (keep_cell S.out.bel x0)
      have x1 := cell_regrown (keep_cell S.out.bel x1)
      have x2 := cell_regrown (keep_cell S.out.bel x2)
      have y0 := cell_regrown (keep_cell S.out.bel y0)
      have y1 := cell_regrown (keep_cell S.out.bel y1)
      have y2 := cell_regrown (keep_cell S.out.bel y2)
      have z0 := cell_regrown (S.out.get 0 0 rfl rfl)
      have z1 := cell_regrown (S.out.get 0 1 rfl rfl)
      have z2 := cell_regrown (S.out.get 0 2 rfl rfl)
      have z3 := cell_regrown (S.out.get 1 0 rfl rfl)
      have z4 := cell_regrown (S.out.get 1 1 rfl rfl)
      have z5 := cell_regrown (S.out.get 1 2 rfl rfl)
      clear hcell1 hcell2
      obtain ⟨⟨sw, sl, sh⟩, hs⟩ : ∃ s, t.snd[k] = s := ⟨_, rfl⟩
      rw [hs] at x0 x1 x2 y0 y1 y2
      clear hs
      dsimp only at x0 x1 x2 y0 y1 y2
      have hq : (k : Int) < (t.snd.length : Int) := by omega
      have e1 : ∀ w, (binOp .neq 57 (Snd.val ⟨sw, sl, sh⟩) (Snd.val ⟨sw, sl, sh⟩)).run Try.prog w = .ok (.bool false) w := fun w => by rw [snd_neq]; simp
      go_wp2_with fail
      clear q0 q1 q2 p0 p1 p2
      refine wp_region_ext (by kernel_rfl) (by kernel_rfl) ?_
      repeat (first | go_big_quiet_step (fail) | quiet_step (fail))
      refine wpQuiet_nil ?_
      clear x0 x1 x2 y0 y1 y2 z0 z1 z2 z3 z4 z5
      intro w1 hb1
      have S := Lib.hid (S.out.call hb1)
      go_wp2_with fail
      go_roundw
      case rel => exact ⟨k + 1, by omega, by go_num, S⟩
      case measure => first | (simp [intOf]; done) | (simp [intOf]; omega)
    · go_wp2_with fail
      go_loopw [6] (fun i wr => ∃ k : Nat, k ≤ t.slp.length ∧ i = I k ∧ Hid (St w wr wr.heap.size [.box (w.heap.size + 1) [I t.wells, .slice A3 t.snd.length c3, .slice A4 t.slp.length c4], .box w.heap.size [I t.wells, .slice A1 t.snd.length c1, .slice A2 t.slp.length c2]])) (fun i _ => t.slp.length - (intOf i).toNat)
      case atStart => exact ⟨0, by omega, rfl, Lib.hid S.out.fix⟩
      case round =>
        clear q0 q1 q2 p0 p1 p2 S
        obtain ⟨k, hk, rfl, S⟩ := hrel
        have q0 := S.out.get 1 0 rfl rfl
        have q1 := S.out.get 1 1 rfl rfl
        have q2 := S.out.get 1 2 rfl rfl
        have p0 := S.out.get 0 0 rfl rfl
        have p1 := S.out.get 0 1 rfl rfl
        have p2 := S.out.get 0 2 rfl rfl
        by_cases hlt : k < t.slp.length
        · obtain ⟨b1, o1, rfl, hb1, hcell1⟩ := HC2.out (by omega)
          obtain ⟨b2, o2, rfl, hb2, hcell2⟩ := HC4.out (by omega)
          obtain ⟨x0, x1, x2, x3⟩ := hcell1 k hlt
          obtain ⟨y0, y1, y2, y3⟩ := hcell2 k hlt
          have x0 := cell_regrown (keep_cell S.out.bel x0)
          have x1 := cell_regrown (keep_cell S.out.bel x1)
          have x2 := cell_regrown (keep_cell S.out.bel x2)
          have x3 := cell_regrown (keep_cell S.out.bel x3)
          have y0 := cell_regrown (keep_cell S.out.bel y0)
          have y1 := cell_regrown (keep_cell S.out.bel y1)
          have y2 := cell_regrown (keep_cell S.out.bel y2)
          have y3 := cell_regrown (keep_cell S.out.bel y3)
          have z0 := cell_regrown (S.out.get 0 0 rfl rfl)
          have z1 := cell_regrown (S.out.get 0 1 rfl rfl)
          have z2 := cell_regrown (S.out.get 0 2 rfl rfl)
          have z3 := cell_regrown (S.out.get 1 0 rfl rfl)
          have z4 := cell_regrown (S.out.get 1 1 rfl rfl)
          have z5 := cell_regrown (S.out.get 1 2 rfl rfl)
          clear hcell1 hcell2
          obtain ⟨⟨sa, sb, sl, sh⟩, hs⟩ : ∃ s, t.slp[k] = s := ⟨_, rfl⟩
          rw [hs] at x0 x1 x2 x3 y0 y1 y2 y3
          clear hs
          dsimp only at x0 x1 x2 x3 y0 y1 y2 y3
          have hq : (k : Int) < (t.slp.length : Int) := by omega
          have e1 : ∀ w, (binOp .neq 47 (Slp.val ⟨sa, sb, sl, sh⟩) (Slp.val ⟨sa, sb, sl, sh⟩)).run Try.prog w = .ok (.bool false) w := fun w => by rw [slp_neq]; simp
          go_wp2_with fail
          clear q0 q1 q2 p0 p1 p2
          refine wp_region_ext (by kernel_rfl) (by kernel_rfl) ?_
          repeat (first | go_big_quiet_step (fail) | quiet_step (fail))
          refine wpQuiet_nil ?_
          clear x0 x1 x2 x3 y0 y1 y2 y3 z0 z1 z2 z3 z4 z5
          intro w1 hb1
          have S := Lib.hid (S.out.call hb1)
          go_wp2_with fail
          go_roundw
          case rel => exact ⟨k + 1, by omega, by go_num, S⟩
          case measure => first | (simp [intOf]; done) | (simp [intOf]; omega)
        · go_wp2_with fail
          go_ret
          exact ⟨rfl, S.out.bel⟩

end Go.Proofs.Ytplbaijdnpfdgaa
