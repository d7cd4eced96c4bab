/- AqueductEach: the law walked. -/
import Derived.Test.YtbddaemekgflmaaRow
import Derived.Test.YtbddaemekgflmaaW45
import Derived.Test.YtbddaemekgflmaaW35
import Derived.Test.YtbddaemekgflmaaW46
import Derived.Test.YtbddaemekgflmaaLEachA
import Derived.Test.YtbddaemekgflmaaLEachB
import Derived.Test.YtbddaemekgflmaaLEachC
namespace Go.Proofs.Ytbddaemekgflmaa
open Go.RowKit Go.Sort

set_option maxRecDepth 100000 in
set_option maxHeartbeats 8000000 in
theorem lawEach_any (v : Value) (d : DLine) (vl : Value) (l : List Int) (w : World) (hv : LineAt w v d) (hl : Ints w vl l) :
    Calls Try.prog 14 #[v, vl] w fun e w' => e = .returned (.bool true) ∧ Below w.heap.size w w' := by
  have HV := Lib.hid hv
  have HLI := Lib.hid hl
  obtain ⟨pv, ov, rfl, hp, ho⟩ := hv
  obtain ⟨Ao, co, rfl, -, -, -⟩ := id ho.open_
  obtain ⟨Ap, cp, rfl, -, -, -⟩ := id hp.open_
  obtain ⟨Al, cl, rfl, hlc1, hlc2, -⟩ := id hl.open_
  have HP := Lib.hid hp
  have X := Box2.new w (.slice Ap d.pts.length cp) (.slice Ao d.odds.length co) 25
  have HB0 := Lib.hid (show Below w.heap.size w (w.alloc (.cells #[.slice Ap d.pts.length cp, .slice Ao d.odds.length co] 25)) from (Below.refl _ _).alloc (Nat.le_refl _) _)
  clear hp ho hl
  cases h1 : valid d
  · have H1 := Lib.hid h1
    clear h1
    go_enter Try.func14, Try.ntmps14
    go_wp2_with fail
    go_at_call 15
    refine (ready_any _ d _ (HV.out.below HB0.out)).mono ?_
    rintro e w1 ⟨rfl, hb⟩
    rw [H1.out]
    have HB1 := Lib.hid (bto HB0.out hb)
    replace X := X.keep hb
    try clear aX bX cX dX lX
    obtain ⟨aX, bX, cX, dX⟩ := id X
    have lX := X.lt
    clear hb HB0
    go_wp2_with fail
    go_at_call 18
    refine (works_any _).mono ?_
    rintro e w9 ⟨rfl, hb⟩
    have HBE := Lib.hid (bto HB1.out hb)
    clear hb
    go_wp2_with fail
    go_ret
    exact ⟨rfl, HBE.out⟩
  · have H1 := Lib.hid h1
    have HVD := Lib.hid h1
    obtain ⟨hn7, hnp, -⟩ := valid_spec h1
    have HL1 := Lib.hid (show d.odds.length ≤ 1000 by omega)
    have HL2 := Lib.hid (show d.pts.length ≤ 1000 by omega)
    have HPOS := Lib.hid (show 0 < d.pts.length by omega)
    have HNP := Lib.hid hnp
    clear hnp h1 hn7 hlc1 hlc2
    by_cases h40 : 40 < l.length
    · go_enter Try.func14, Try.ntmps14
      go_wp2_with fail
      go_at_call 15
      refine (ready_any _ d _ (HV.out.below HB0.out)).mono ?_
      rintro e w1 ⟨rfl, hb⟩
      rw [H1.out]
      have HB1 := Lib.hid (bto HB0.out hb)
      replace X := X.keep hb
      try clear aX bX cX dX lX
      obtain ⟨aX, bX, cX, dX⟩ := id X
      have lX := X.lt
      clear hb HB0
      go_wp2_with fail
      go_at_call 18
      refine (works_any _).mono ?_
      rintro e w9 ⟨rfl, hb⟩
      have HBE := Lib.hid (bto HB1.out hb)
      clear hb
      go_wp2_with fail
      go_ret
      exact ⟨rfl, HBE.out⟩
    · skip
      by_cases hcm : calm d.pts
      · cases hT : truthB d l
        · exact each_no d Ap cp Ao co Al cl l w HV HLI HP HVD h40 hcm hT
        · exact each_yes d Ap cp Ao co Al cl l w HV HLI HP HVD h40 hcm hT
      · exact each_wild d Ap cp Ao co Al cl l w HV HLI HP HVD h40 hcm
end Go.Proofs.Ytbddaemekgflmaa
