/- The tied card of TopDrawn. -/
import Derived.Test.YtldcehhhndlhdaaDoorRDrawn
import Derived.Test.YtldcehhhndlhdaaDoorCards
import Derived.Test.YtldcehhhndlhdaaDoorTie
import Derived.SevenTiedAt
namespace Go.Proofs.YtldcehhhndlhdaaDoor
open Go

theorem topDrawn_holds : Rows.TopDrawnCardSaid :=
  Claim7.holds_tied_plain_at .later [] [.data] true (true, "e16163760818e4d7516cb4eb3bd078934d68872665479cd6264120cb03eb1f94") false
    topDrawn_row_holds (fun _ h => by cases h) (by kernel_rfl) (fun _ h => by cases h) topDrawn_row_tie rfl ⟨rfl, rfl⟩ (by kernel_rfl) rfl
    (fun f fn hf hfn => by
      obtain rfl : f = 4 := Option.some.inj ((show Tryd.prog.funcNamed "steening/steeningtop.TopDrawn" = some 4 by kernel_rfl).symm.trans hf) |>.symm
      obtain rfl : fn = Tryd.f4 := (Option.some.inj (Tryd.func4.symm.trans hfn)).symm
      exact ⟨by kernel_rfl, fun j t ht => by
        rw [Tryd.params4] at ht
        have hm : t ∈ [62, 25, 64] := by simpa using Array.mem_of_getElem? ht
        have hall : ([62, 25, 64].all fun u => !Tryd.prog.wantsStandIn u) = true := by kernel_rfl
        exact (show Tryd.prog.wantsStandIn t = false by simpa using List.all_eq_true.1 hall t hm)⟩)
    (by kernel_rfl)
#print axioms topDrawn_holds
end Go.Proofs.YtldcehhhndlhdaaDoor
