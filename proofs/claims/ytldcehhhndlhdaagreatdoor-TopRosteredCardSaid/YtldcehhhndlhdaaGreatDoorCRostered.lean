/- The tied card of TopRostered. -/
import Derived.Test.YtldcehhhndlhdaaGreatDoorRRostered
import Derived.Test.YtldcehhhndlhdaaGreatDoorCards
import Derived.Test.YtldcehhhndlhdaaGreatDoorTie
import Derived.SevenTiedAt
namespace Go.Proofs.YtldcehhhndlhdaaGreatDoor
open Go

theorem topRostered_holds : Rows.TopRosteredCardSaid :=
  Claim7.holds_tied_plain_at .later [] [.data, .data, .data] true (true, "79f903836dbf93f9ac22b3247f04d5e6941fc34a78a9c372e84bd57b9ff02288") false
    topRostered_row_holds (fun _ h => by cases h) (by kernel_rfl) (fun _ h => by cases h) topRostered_row_tie rfl ⟨rfl, rfl⟩ (by kernel_rfl) rfl
    (fun f fn hf hfn => by
      obtain rfl : f = 3 := Option.some.inj ((show Tryz.prog.funcNamed "steening/steeningtop.TopRostered" = some 3 by kernel_rfl).symm.trans hf) |>.symm
      obtain rfl : fn = Tryz.f3 := (Option.some.inj (Tryz.func3.symm.trans hfn)).symm
      exact ⟨by kernel_rfl, fun j t ht => by
        rw [Tryz.params3] at ht
        have hm : t ∈ [25] := by simpa using Array.mem_of_getElem? ht
        have hall : ([25].all fun u => !Tryz.prog.wantsStandIn u) = true := by kernel_rfl
        exact (show Tryz.prog.wantsStandIn t = false by simpa using List.all_eq_true.1 hall t hm)⟩)
    (by kernel_rfl)
#print axioms topRostered_holds
end Go.Proofs.YtldcehhhndlhdaaGreatDoor
