/- Walks of In and of the reference's IsTruth. -/
import Derived.Test.YtbddaemekgflmaaW18
import Derived.Test.YtbddaemekgflmaaW17
import Derived.Test.YtbddaemekgflmaaPlain6
namespace Go.Proofs.Ytbddaemekgflmaa
open Go.RowKit Go.Sort

set_option maxHeartbeats 1000000 in
theorem in_any (va : Value) (xs : List Int) (n : Int) (w : World) (ha : Ints w va xs) (hlen : xs.length ≤ 1000) :
    Calls Try.prog 53 #[va, I n] w fun e w' => e = .returned (.bool (xs.contains n)) ∧ Below w.heap.size w w' := by
  obtain ⟨A, c, rfl, hac, hcm, ha⟩ := ha.open_
  have HA := Lib.hid ha
  clear ha
  go_enter Try.func53, Try.ntmps53
  go_wp2_with fail
  go_loopw [5] (fun i wr => ∃ k : Nat, k ≤ xs.length ∧ i = I k ∧ Hid (∀ j (h : j < xs.length), j < k → xs[j] ≠ n) ∧ wr = w) (fun i _ => xs.length - (intOf i).toNat)
  case atStart => exact ⟨0, by omega, rfl, Lib.hid (fun _ _ h => absurd h (by omega)), rfl⟩
  case round =>
    obtain ⟨k, hk, rfl, hj, rfl⟩ := hrel
    by_cases hlt : k < xs.length
    · obtain ⟨b, o, rfl, hbl, hcell⟩ := HA.out (by omega)
      have y0 := hcell k hlt
      clear hcell
      by_cases he : xs[k] = n
      · have hq : (xs[k] == n) = true := by simp [he]
        have HE := Lib.hid (show xs.contains n = true by rw [← he]; simp)
        clear he
        go_wp2_with fail
        go_ret
        exact ⟨by rw [HE.out]; rfl, Below.refl _ _⟩
      · have hq : (xs[k] == n) = false := by simp [he]
        have HE := Lib.hid he
        clear he
        go_wp2_with fail
        go_roundw
        case rel => exact ⟨k + 1, by omega, by go_num, Lib.hid (fun j h h' => by
          by_cases e : j = k
          · subst e; exact HE.out
          · exact hj.out j h (by omega)), by trivial⟩
        case measure => first | (simp [intOf]; done) | (simp [intOf]; omega)
    · have HE := Lib.hid (show xs.contains n = false by
        rw [Bool.eq_false_iff]
        intro h
        obtain ⟨j, hj1, hj2⟩ := List.mem_iff_getElem.1 (List.contains_iff_mem.1 h)
        exact hj.out j hj1 (by omega) hj2)
      go_wp2_with fail
      go_ret
      exact ⟨by rw [HE.out]; rfl, Below.refl _ _⟩

theorem rwithin_b (n lo hi : Int) (W : World) : Calls Try.prog 56 #[I n, I lo, I hi] W fun e w' => e = .returned (.bool (inR n lo hi)) ∧ Below W.heap.size W w' :=
  (rwithin_any n lo hi W).mono fun _ _ h => ⟨h.1, by rw [h.2]; exact Below.refl _ _⟩
theorem okAt_eq {d : DLine} {l : List Int} (k : Nat) (h : k < l.length) (h' : k < d.pts.length) : okAt d l k = (inR l[k] d.pts[k].lo d.pts[k].hi && !(decide (0 < k) && decide (l.getD (k - 1) 0 < l[k]))) := by
  unfold okAt
  rw [show l.getD k 0 = l[k] by simp [List.getD, List.getElem?_eq_getElem h], show d.pts.getD k default = d.pts[k] by simp [List.getD, List.getElem?_eq_getElem h']]

set_option maxRecDepth 20000 in
set_option maxHeartbeats 2000000 in
theorem isTruth_any (v lv : Value) (d : DLine) (l : List Int) (w : World) (hv : LineAt w v d) (hl : Ints w lv l) (hlen : d.pts.length ≤ 1000) (hlen' : l.length ≤ 1000) :
    Calls Try.prog 55 #[v, lv] w fun e w' => e = .returned (.bool (truthB d l)) ∧ Below w.heap.size w w' := by
  obtain ⟨pv, ov, rfl, hp, ho⟩ := hv
  obtain ⟨A, c, rfl, hac, hcm, ha⟩ := hl.open_
  obtain ⟨A', c', rfl, hac', hcm', ha'⟩ := hp.open_
  have hb0 : ∀ x, Below w.heap.size w (w.alloc x) := fun x => (Below.refl _ _).alloc (Nat.le_refl _) _
  have HA := Lib.hid ha
  have HA' := Lib.hid ha'
  have B0 := Box2.new w (.slice A' d.pts.length c') ov 25
  clear hp ho ha ha' hl
  by_cases h1 : l.length = d.pts.length
  · have hl1 : ((l.length : Int) != (d.pts.length : Int)) = false := by simp; omega
    have HL := Lib.hid h1
    clear h1
    have HB0 := Lib.hid B0
    have HBW := Lib.hid (hb0 (.cells #[.slice A' d.pts.length c', ov] 25))
    go_enter Try.func55, Try.ntmps55
    obtain ⟨x0, x1, x2, x3⟩ := B0
    go_wp2_with fail
    go_loopw [5] (fun i wr => ∃ k : Nat, k ≤ l.length ∧ i = I k ∧ Hid (∀ j, j < k → okAt d l j = true) ∧ Hid (Box2 wr w.heap.size (.slice A' d.pts.length c') ov) ∧ Hid (Below w.heap.size w wr)) (fun i _ => l.length - (intOf i).toNat)
    case atStart => exact ⟨0, by omega, rfl, Lib.hid (fun _ h => absurd h (by omega)), HB0, HBW⟩
    case round =>
      clear x0 x1 x2 x3 HB0 HBW
      obtain ⟨k, hk, rfl, hj, HB, HW⟩ := hrel
      by_cases hlt : k < l.length
      · have hlt' : k < d.pts.length := by have := HL.out; omega
        obtain ⟨b, o, rfl, hbl, hcell⟩ := HA.out (by omega)
        obtain ⟨b', o', rfl, hbl', hcell'⟩ := HA'.out (by omega)
        have y0 := keep_cell HW.out (hcell k hlt)
        have y1 := keep_cell HW.out (hcell' k hlt').1
        have y2 := keep_cell HW.out (hcell' k hlt').2.1
        have q1 : (k : Int) < (l.length : Int) := by omega
        have q2 : (k : Int) < (d.pts.length : Int) := by omega
        have HOK := Lib.hid (okAt_eq k hlt hlt')
        have e0 := cell_regrown y0
        have e1 := cell_regrown y1
        have e2 := cell_regrown y2
        have e3 := cell_regrown HB.out.c0
        have c1 := ext_call (w := wr) fun W _ => rwithin_b l[k] d.pts[k].lo d.pts[k].hi W
        cases hin : inR l[k] d.pts[k].lo d.pts[k].hi
        · rw [hin] at c1
          have HT := Lib.hid (truth_not (d := d) k hlt (by rw [HOK.out, hin]; rfl))
          clear hcell hcell' y0 y1 y2 hin
          go_wp2_with fail
          refine wp_region_ext (by kernel_rfl) (by kernel_rfl) ?_
          repeat (first | go_big_quiet_step (exact c1 _ _) | quiet_step (exact c1 _ _))
          refine wpQuiet_nil ?_
          clear e0 e1 e2 e3 c1
          intro w1 hb1
          go_wp2_with fail
          go_ret
          exact ⟨by rw [HT.out]; rfl, bto HW.out hb1⟩
        · rw [hin] at c1
          by_cases hk0 : 0 < k
          · have y3 := keep_cell HW.out (hcell (k - 1) (by omega))
            have e4 := cell_regrown y3
            have i0 : IntKind.i64.wrap ((k : Int) - 1) = ((k - 1 : Nat) : Int) := by rw [IntWalk.i64_in _ (by omega)]; omega
            have i1 : ((k - 1 : Nat) : Int) < (l.length : Int) := by omega
            have i2 : (0 : Int) ≤ ((k - 1 : Nat) : Int) := by omega
            have i3 : (0 : Int) < (k : Int) := by omega
            by_cases hgt : l[k - 1] < l[k]
            · have HT := Lib.hid (truth_not (d := d) k hlt (by rw [HOK.out, hin]; simp [hk0, hgt, List.getD, List.getElem?_eq_getElem (show k - 1 < l.length by omega)]))
              clear hcell hcell' y0 y1 y2 y3 hin
              go_wp2_with fail
              refine wp_region_ext (by kernel_rfl) (by kernel_rfl) ?_
              repeat (first | go_big_quiet_step (exact c1 _ _) | quiet_step (exact c1 _ _))
              refine wpQuiet_nil ?_
              clear e0 e1 e2 e3 e4 c1 i0
              intro w1 hb1
              go_wp2_with fail
              go_ret
              exact ⟨by rw [HT.out]; rfl, bto HW.out hb1⟩
            · have HT := Lib.hid (show okAt d l k = true by rw [HOK.out, hin]; simp [hgt, List.getD, List.getElem?_eq_getElem (show k - 1 < l.length by omega)])
              clear hcell hcell' y0 y1 y2 y3 hin
              go_wp2_with fail
              refine wp_region_ext (by kernel_rfl) (by kernel_rfl) ?_
              repeat (first | go_big_quiet_step (exact c1 _ _) | quiet_step (exact c1 _ _))
              refine wpQuiet_nil ?_
              clear e0 e1 e2 e3 e4 c1 i0
              intro w1 hb1
              go_wp2_with fail
              go_roundw
              case rel => exact ⟨k + 1, by omega, by go_num, Lib.hid (fun j h => by
                by_cases e : j = k
                · subst e; exact HT.out
                · exact hj.out j (by omega)), Lib.hid (HB.out.keep hb1), Lib.hid (bto HW.out hb1)⟩
              case measure => first | (simp [intOf]; done) | (simp [intOf]; omega)
          · have i3 : ¬ (0 : Int) < (k : Int) := by omega
            have HT := Lib.hid (show okAt d l k = true by rw [HOK.out, hin]; simp [hk0])
            clear hcell hcell' y0 y1 y2 hin
            go_wp2_with fail
            refine wp_region_ext (by kernel_rfl) (by kernel_rfl) ?_
            repeat (first | go_big_quiet_step (exact c1 _ _) | quiet_step (exact c1 _ _))
            refine wpQuiet_nil ?_
            clear e0 e1 e2 e3 c1
            intro w1 hb1
            go_wp2_with fail
            go_roundw
            case rel => exact ⟨k + 1, by omega, by go_num, Lib.hid (fun j h => by
              by_cases e : j = k
              · subst e; exact HT.out
              · exact hj.out j (by omega)), Lib.hid (HB.out.keep hb1), Lib.hid (bto HW.out hb1)⟩
            case measure => first | (simp [intOf]; done) | (simp [intOf]; omega)
      · have HT := Lib.hid (truth_yes HL.out (fun i hi => hj.out i (by omega)))
        go_wp2_with fail
        go_ret
        exact ⟨by rw [HT.out]; rfl, HW.out⟩
  · have hl1 : ((l.length : Int) != (d.pts.length : Int)) = true := by simp; omega
    have HE := Lib.hid (show truthB d l = false by unfold truthB; simp [h1])
    clear h1
    obtain ⟨x0, x1, x2, x3⟩ := B0
    go_enter Try.func55, Try.ntmps55
    go_wp2_with fail
    go_ret
    exact ⟨by rw [HE.out]; rfl, hb0 _⟩
end Go.Proofs.Ytbddaemekgflmaa
