/- The tied card of TopSounded. -/
import Derived.Test.YtldcehhhndlhdaaDoorRSounded
import Derived.Test.YtldcehhhndlhdaaDoorCards
import Derived.Test.YtldcehhhndlhdaaDoorTie
import Derived.SevenTiedAt
namespace Go.Proofs.YtldcehhhndlhdaaDoor
open Go

theorem topSounded_holds : Rows.TopSoundedCardSaid :=
  Claim7.holds_tied_plain_at .later [] [.data, .data] true (true, "e16163760818e4d7516cb4eb3bd078934d68872665479cd6264120cb03eb1f94") false
    topSounded_row_holds (fun _ h => by cases h) (by kernel_rfl) (fun _ h => by cases h) topSounded_row_tie rfl ⟨rfl, rfl⟩ (by kernel_rfl) rfl
    (fun f fn hf hfn => by
      obtain rfl : f = 3 := Option.some.inj ((show Tryd.prog.funcNamed "steening/steeningtop.TopSounded" = some 3 by kernel_rfl).symm.trans hf) |>.symm
      obtain rfl : fn = Tryd.f3 := (Option.some.inj (Tryd.func3.symm.trans hfn)).symm
      exact ⟨by kernel_rfl, fun j t ht => by
        rw [Tryd.params3] at ht
        have hm : t ∈ [25, 25, 29, 33] := by simpa using Array.mem_of_getElem? ht
        have hall : ([25, 25, 29, 33].all fun u => !Tryd.prog.wantsStandIn u) = true := by kernel_rfl
        exact (show Tryd.prog.wantsStandIn t = false by simpa using List.all_eq_true.1 hall t hm)⟩)
    (by kernel_rfl)
#print axioms topSounded_holds
end Go.Proofs.YtldcehhhndlhdaaDoor
