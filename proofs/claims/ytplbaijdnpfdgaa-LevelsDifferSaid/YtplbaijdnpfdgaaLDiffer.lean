/- The law LevelsDiffer walked. -/
import Derived.Test.YtplbaijdnpfdgaaV5
namespace Go.Proofs.Ytplbaijdnpfdgaa
open Go.RowKit Go.Sort

set_option maxRecDepth 100000 in
set_option maxHeartbeats 8000000 in
theorem lawDiffer_any (v : Value) (t : Twn) (one other : Int) (w : World) (hv : TwnAt w v t) :
    Calls Try.prog 10 #[v, I one, I other] w fun e w' => e = .returned (.bool true) ∧ Below w.heap.size w w' := by
  obtain ⟨sv, pv, rfl, hs, hp⟩ := hv
  have HSN := Lib.hid hs
  have HSP := Lib.hid hp
  obtain ⟨A1, c1, rfl, -, -, -⟩ := id hs.open_
  obtain ⟨A2, c2, rfl, -, -, -⟩ := id hp.open_
  clear hs hp
  have S := Lib.hid (show St w (w.alloc (.cells #[I t.wells, .slice A1 t.snd.length c1, .slice A2 t.slp.length c2] 25)) (w.heap.size + 1) [.box w.heap.size [I t.wells, .slice A1 t.snd.length c1, .slice A2 t.slp.length c2]] from (St.init w).alloc [I t.wells, .slice A1 t.snd.length c1, .slice A2 t.slp.length c2] 25)
  cases hh : farB t
  · have HH := Lib.hid hh
    obtain ⟨ht1, ht2, -⟩ := farB_false hh
    clear hh
    go_enter Try.func10, Try.ntmps10
    have q_town0 := S.out.get 0 0 rfl rfl
    have q_town1 := S.out.get 0 1 rfl rfl
    have q_town2 := S.out.get 0 2 rfl rfl
    go_wp2_with fail
    refine (far_any _ t _ ⟨_, _, rfl, HSN.out.below S.out.bel, HSP.out.below S.out.bel⟩).mono ?_
    rintro e w1 ⟨rfl, hb⟩
    rw [HH.out]
    have S := Lib.hid (S.out.call hb)
    clear hb
    clear q_town0 q_town1 q_town2
    have q_town0 := S.out.get 0 0 rfl rfl
    have q_town1 := S.out.get 0 1 rfl rfl
    have q_town2 := S.out.get 0 2 rfl rfl
    go_wp2_with fail
    clear q_town0 q_town1 q_town2
    refine (copy_any _ t _ ⟨_, _, rfl, HSN.out.below S.out.bel, HSP.out.below S.out.bel⟩ (by omega) (by omega)).mono ?_
    rintro e wc ⟨v', rfl, ⟨rv', sv', rfl, ho1, ho2⟩, hb⟩
    obtain ⟨Ax, cx, rfl⟩ := own_shape ho1
    obtain ⟨Ay, cy, rfl⟩ := own_shape ho2
    have S := Lib.hid (S.out.take2 hb ho1 ho2 (by decide))
    clear hb ho1 ho2
    have S := Lib.hid (S.out.alloc [I t.wells, .slice Ax t.snd.length cx, .slice Ay t.slp.length cy] 25)
    have q_copy0 := S.out.get 0 0 rfl rfl
    have q_copy1 := S.out.get 0 1 rfl rfl
    have q_copy2 := S.out.get 0 2 rfl rfl
    go_wp2_with fail
    obtain ⟨⟨⟨a1, a2⟩, e1⟩, hle⟩ : ∃ x, differP t one other = x := ⟨_, rfl⟩
    have HLE := Lib.hid hle
    clear hle
    refine (differ_any _ t one other _ ⟨_, _, rfl, S.out.row 1 rfl, S.out.row 2 rfl⟩).mono ?_
    rintro e w2 ⟨rfl, hb⟩
    rw [HLE.out]
    have S := Lib.hid ((S.out.call hb).alloc [I a1, I a2] 40)
    clear hb
    clear q_copy0 q_copy1 q_copy2
    have q_town0 := S.out.get 4 0 rfl rfl
    have q_town1 := S.out.get 4 1 rfl rfl
    have q_town2 := S.out.get 4 2 rfl rfl
    go_wp2_with fail
    refine (rDiffer_any _ t one other _ ⟨_, _, rfl, HSN.out.below S.out.bel, HSP.out.below S.out.bel⟩).mono ?_
    rintro e w3 ⟨rfl, hb⟩
    rw [HLE.out]
    have S := Lib.hid ((S.out.call hb).alloc [I a1, I a2] 40)
    clear hb
    clear q_town0 q_town1 q_town2
    have q_copy0 := S.out.get 2 0 rfl rfl
    have q_copy1 := S.out.get 2 1 rfl rfl
    have q_copy2 := S.out.get 2 2 rfl rfl
    go_wp2_with fail
    obtain ⟨⟨h1, h2⟩, hhi⟩ : ∃ x, higherP t one other = x := ⟨_, rfl⟩
    have HHI := Lib.hid hhi
    clear hhi
    refine (higher_any _ t one other _ ⟨_, _, rfl, S.out.row 3 rfl, S.out.row 4 rfl⟩).mono ?_
    rintro e w4 ⟨rfl, hb⟩
    rw [HHI.out]
    have S := Lib.hid (S.out.call hb)
    clear hb
    clear q_copy0 q_copy1 q_copy2
    have q_town0 := S.out.get 5 0 rfl rfl
    have q_town1 := S.out.get 5 1 rfl rfl
    have q_town2 := S.out.get 5 2 rfl rfl
    go_wp2_with fail
    have e1x : ∀ w, (binOp .eql 40 (Sp.val ⟨a1, a2⟩) (Sp.val ⟨a1, a2⟩)).run Try.prog w = .ok (.bool true) w := fun w => by rw [span_eql]; simp
    refine (rHigher_any _ t one other _ ⟨_, _, rfl, HSN.out.below S.out.bel, HSP.out.below S.out.bel⟩).mono ?_
    rintro e w5 ⟨rfl, hb⟩
    rw [HHI.out]
    have S := Lib.hid (S.out.call hb)
    clear hb
    clear q_town0 q_town1 q_town2
    have q_x0 := S.out.get 1 0 rfl rfl
    have q_x1 := S.out.get 1 1 rfl rfl
    have q_y0 := S.out.get 0 0 rfl rfl
    have q_y1 := S.out.get 0 1 rfl rfl
    have q_copy0 := S.out.get 2 0 rfl rfl
    have q_copy1 := S.out.get 2 1 rfl rfl
    have q_copy2 := S.out.get 2 2 rfl rfl
    have q_town0 := S.out.get 5 0 rfl rfl
    have q_town1 := S.out.get 5 1 rfl rfl
    have q_town2 := S.out.get 5 2 rfl rfl
    go_wp2_with fail
    clear e1x
    refine (lSame_any _ _ t _ ⟨_, _, rfl, S.out.row 3 rfl, S.out.row 4 rfl⟩ ⟨_, _, rfl, HSN.out.below S.out.bel, HSP.out.below S.out.bel⟩).mono ?_
    rintro e w6 ⟨rfl, hb⟩
    have S := Lib.hid (S.out.call hb)
    clear hb
    clear q_x0 q_x1 q_y0 q_y1 q_copy0 q_copy1 q_copy2 q_town0 q_town1 q_town2
    go_wp2_with fail
    refine (works_any _).mono ?_
    rintro e w7 ⟨rfl, hb⟩
    have S := Lib.hid (S.out.call hb)
    clear hb
    go_wp2_with fail
    go_ret
    exact ⟨rfl, S.out.bel⟩
  · have HH := Lib.hid hh
    clear hh
    go_enter Try.func10, Try.ntmps10
    have q_town0 := S.out.get 0 0 rfl rfl
    have q_town1 := S.out.get 0 1 rfl rfl
    have q_town2 := S.out.get 0 2 rfl rfl
    go_wp2_with fail
    refine (far_any _ t _ ⟨_, _, rfl, HSN.out.below S.out.bel, HSP.out.below S.out.bel⟩).mono ?_
    rintro e w1 ⟨rfl, hb⟩
    rw [HH.out]
    have S := Lib.hid (S.out.call hb)
    clear hb
    clear q_town0 q_town1 q_town2
    have q_town0 := S.out.get 0 0 rfl rfl
    have q_town1 := S.out.get 0 1 rfl rfl
    have q_town2 := S.out.get 0 2 rfl rfl
    go_wp2_with fail
    refine (works_any _).mono ?_
    rintro e w2 ⟨rfl, hb⟩
    have S := Lib.hid (S.out.call hb)
    clear hb
    clear q_town0 q_town1 q_town2
    have q_town0 := S.out.get 0 0 rfl rfl
    have q_town1 := S.out.get 0 1 rfl rfl
    have q_town2 := S.out.get 0 2 rfl rfl
    go_wp2_with fail
    go_ret
    exact ⟨rfl, S.out.bel⟩

end Go.Proofs.Ytplbaijdnpfdgaa
