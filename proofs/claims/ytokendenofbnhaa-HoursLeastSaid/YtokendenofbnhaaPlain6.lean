/- The chapter's example. No program here. -/
import Derived.Test.YtokendenofbnhaaPlain5
namespace Go.Proofs.Ytokendenofbnhaa
def exR : Ros := { room := [1, 2, 1, 1], strs := [⟨0, 0, 2, 2⟩, ⟨0, 0, 1, 3⟩, ⟨1, 0, 3, 1⟩, ⟨2, 1, 2, 2⟩] }
def exQ : Ros := roomier exR 0 (-1)
theorem ex_least : leastR exR = (2, 0) := by decide +kernel
theorem ex_bound : boundR exR 1 = (1, 0) := by decide +kernel
theorem ex_give : giveR exR 0 = (2, 0) := by decide +kernel
theorem ex_roster : rosterR exQ = ([1, 1, 3, 2], 0) := by decide +kernel
theorem ex_far : farR exQ = (2, 0) := by decide +kernel
theorem ex_fewest : fewestR exQ = (3, 0) := by decide +kernel
theorem ex_given : givenE exR [0, 1, 1, 2] = 0 := by decide +kernel
theorem ex_swapB : swapB exR [0, 1, 1, 2] 0 1 = true := by decide +kernel
theorem ex_swap : SwapIs exR [0, 1, 1, 2] ((0, 1), 0) := .inl ⟨0, 1, by omega, by decide, rfl, ex_swapB, fun a' b' h1 _ h => by omega⟩
end Go.Proofs.Ytokendenofbnhaa
