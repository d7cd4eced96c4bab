/-
  No cell of these rows narrows 'for every input' (looked for: loops, veiled, ifaces, maps, wideKeys, modest, calm, conditions, laid).
  DERIVED. THE GIVEN ROWS OF THIS SEAT. 15 by the template 'for every input the law returns true; each argument reads behind the call as it read before'; 0 by the template 'total and deterministic' (their statements: YtplbaijdnpfdgaaTotals.lean).
  GIVEN WITH THE SEED: the statements are not yours to turn. If you find one false, say at which input.
  Laid BY PROGRAM, IN A SANDBOX (cutbox-rows.mjs): the forced cells as the released guide's own fill.sh prints them over the translation f59963235e1321c7… (all of the seat's roots in one cut). By AI agents, Wed Nov 11 2026. No macro, syntax, notation, axiom, sorry.
-/
import Derived.Test.YtplbaijdnpfdgaaChecked
import GoSem.Claim
import GoSem.ClaimJoined
import GoSem.ClaimMapViews
import Derived.JoinedTies
import Derived.KernelRfl
namespace Go.Proofs.Ytplbaijdnpfdgaa
/- THE CELL 'sum', in the pinned program and in every row, IS THE sha256 OF THE DUMP (.gsa) THAT YtplbaijdnpfdgaaProg.lean LOADS. Nothing in Lean hashes anything: it is a label: what it is worth is what the hold of that sum in a sandbox is worth. -/
noncomputable def Try.pinned : Pinned := { name := "ytplbaijdnpfdgaa", sum := "f59963235e1321c78c0923f1767d8c24bab9e25a8a78855621b71763fc92271f", checked := Try.checked }
namespace Rows
def none {H : Type} : Left H := { results := [], args := [] }

/-- 'steeninglaw01.LevelsClash': WHATEVER THE INPUT: true; the input reads as it did. -/
def levelsClashSpec : ChangeSpec := { name := "levelsClash", fn := fun _ => fun
  | [d] => { results := [.lit (.bool true)], args := [d] }
  | _ => none }
def levelsClashRow : OpenClaim := { program := "ytplbaijdnpfdgaa", sum := "f59963235e1321c78c0923f1767d8c24bab9e25a8a78855621b71763fc92271f", func := "steening/steeninglaw01.LevelsClash", spec := "levelsClash", unfollowed := true, recurses := true, apart := false }
def LevelsClashSaid : Prop := levelsClashRow.holds Try.pinned (OpenSpec.ofChange levelsClashSpec)

/-- ITS FALSE NEIGHBOUR: 'it returns false'. Refute it at one input. -/
def levelsClashWrong : ChangeSpec := { name := "levelsClash", fn := fun _ => fun
  | [d] => { results := [.lit (.bool false)], args := [d] }
  | _ => none }
def LevelsClashWrongFalsely : Prop := levelsClashRow.holds Try.pinned (OpenSpec.ofChange levelsClashWrong)

/-- 'steeninglaw01.LevelsWhy': WHATEVER THE INPUT: true; the input reads as it did. -/
def levelsWhySpec : ChangeSpec := { name := "levelsWhy", fn := fun _ => fun
  | [d1, d2] => { results := [.lit (.bool true)], args := [d1, d2] }
  | _ => none }
def levelsWhyRow : OpenClaim := { program := "ytplbaijdnpfdgaa", sum := "f59963235e1321c78c0923f1767d8c24bab9e25a8a78855621b71763fc92271f", func := "steening/steeninglaw01.LevelsWhy", spec := "levelsWhy", unfollowed := true, recurses := true, apart := false }
def LevelsWhySaid : Prop := levelsWhyRow.holds Try.pinned (OpenSpec.ofChange levelsWhySpec)

/-- ITS FALSE NEIGHBOUR: 'it returns false'. Refute it at one input. -/
def levelsWhyWrong : ChangeSpec := { name := "levelsWhy", fn := fun _ => fun
  | [d1, d2] => { results := [.lit (.bool false)], args := [d1, d2] }
  | _ => none }
def LevelsWhyWrongFalsely : Prop := levelsWhyRow.holds Try.pinned (OpenSpec.ofChange levelsWhyWrong)

/-- 'steeninglaw01.LevelsThree': WHATEVER THE INPUT: true; the input reads as it did. -/
def levelsThreeSpec : ChangeSpec := { name := "levelsThree", fn := fun _ => fun
  | [d1, d2] => { results := [.lit (.bool true)], args := [d1, d2] }
  | _ => none }
def levelsThreeRow : OpenClaim := { program := "ytplbaijdnpfdgaa", sum := "f59963235e1321c78c0923f1767d8c24bab9e25a8a78855621b71763fc92271f", func := "steening/steeninglaw01.LevelsThree", spec := "levelsThree", unfollowed := true, recurses := true, apart := false }
def LevelsThreeSaid : Prop := levelsThreeRow.holds Try.pinned (OpenSpec.ofChange levelsThreeSpec)

/-- ITS FALSE NEIGHBOUR: 'it returns false'. Refute it at one input. -/
def levelsThreeWrong : ChangeSpec := { name := "levelsThree", fn := fun _ => fun
  | [d1, d2] => { results := [.lit (.bool false)], args := [d1, d2] }
  | _ => none }
def LevelsThreeWrongFalsely : Prop := levelsThreeRow.holds Try.pinned (OpenSpec.ofChange levelsThreeWrong)

/-- 'steeninglaw01.LevelsEnds': WHATEVER THE INPUT: true; the input reads as it did. -/
def levelsEndsSpec : ChangeSpec := { name := "levelsEnds", fn := fun _ => fun
  | [d1, d2] => { results := [.lit (.bool true)], args := [d1, d2] }
  | _ => none }
def levelsEndsRow : OpenClaim := { program := "ytplbaijdnpfdgaa", sum := "f59963235e1321c78c0923f1767d8c24bab9e25a8a78855621b71763fc92271f", func := "steening/steeninglaw01.LevelsEnds", spec := "levelsEnds", unfollowed := true, recurses := true, apart := false }
def LevelsEndsSaid : Prop := levelsEndsRow.holds Try.pinned (OpenSpec.ofChange levelsEndsSpec)

/-- ITS FALSE NEIGHBOUR: 'it returns false'. Refute it at one input. -/
def levelsEndsWrong : ChangeSpec := { name := "levelsEnds", fn := fun _ => fun
  | [d1, d2] => { results := [.lit (.bool false)], args := [d1, d2] }
  | _ => none }
def LevelsEndsWrongFalsely : Prop := levelsEndsRow.holds Try.pinned (OpenSpec.ofChange levelsEndsWrong)

/-- 'steeninglaw01.LevelsDeeper': WHATEVER THE INPUT: true; the input reads as it did. -/
def levelsDeeperSpec : ChangeSpec := { name := "levelsDeeper", fn := fun _ => fun
  | [d1, d2] => { results := [.lit (.bool true)], args := [d1, d2] }
  | _ => none }
def levelsDeeperRow : OpenClaim := { program := "ytplbaijdnpfdgaa", sum := "f59963235e1321c78c0923f1767d8c24bab9e25a8a78855621b71763fc92271f", func := "steening/steeninglaw01.LevelsDeeper", spec := "levelsDeeper", unfollowed := true, recurses := true, apart := false }
def LevelsDeeperSaid : Prop := levelsDeeperRow.holds Try.pinned (OpenSpec.ofChange levelsDeeperSpec)

/-- ITS FALSE NEIGHBOUR: 'it returns false'. Refute it at one input. -/
def levelsDeeperWrong : ChangeSpec := { name := "levelsDeeper", fn := fun _ => fun
  | [d1, d2] => { results := [.lit (.bool false)], args := [d1, d2] }
  | _ => none }
def LevelsDeeperWrongFalsely : Prop := levelsDeeperRow.holds Try.pinned (OpenSpec.ofChange levelsDeeperWrong)

/-- 'steeninglaw01.LevelsContrary': WHATEVER THE INPUT: true; the input reads as it did. -/
def levelsContrarySpec : ChangeSpec := { name := "levelsContrary", fn := fun _ => fun
  | [d1, d2] => { results := [.lit (.bool true)], args := [d1, d2] }
  | _ => none }
def levelsContraryRow : OpenClaim := { program := "ytplbaijdnpfdgaa", sum := "f59963235e1321c78c0923f1767d8c24bab9e25a8a78855621b71763fc92271f", func := "steening/steeninglaw01.LevelsContrary", spec := "levelsContrary", unfollowed := true, recurses := true, apart := false }
def LevelsContrarySaid : Prop := levelsContraryRow.holds Try.pinned (OpenSpec.ofChange levelsContrarySpec)

/-- ITS FALSE NEIGHBOUR: 'it returns false'. Refute it at one input. -/
def levelsContraryWrong : ChangeSpec := { name := "levelsContrary", fn := fun _ => fun
  | [d1, d2] => { results := [.lit (.bool false)], args := [d1, d2] }
  | _ => none }
def LevelsContraryWrongFalsely : Prop := levelsContraryRow.holds Try.pinned (OpenSpec.ofChange levelsContraryWrong)

/-- 'steeninglaw01.LevelsReason': WHATEVER THE INPUT: true; the input reads as it did. -/
def levelsReasonSpec : ChangeSpec := { name := "levelsReason", fn := fun _ => fun
  | [d1, d2] => { results := [.lit (.bool true)], args := [d1, d2] }
  | _ => none }
def levelsReasonRow : OpenClaim := { program := "ytplbaijdnpfdgaa", sum := "f59963235e1321c78c0923f1767d8c24bab9e25a8a78855621b71763fc92271f", func := "steening/steeninglaw01.LevelsReason", spec := "levelsReason", unfollowed := true, recurses := true, apart := false }
def LevelsReasonSaid : Prop := levelsReasonRow.holds Try.pinned (OpenSpec.ofChange levelsReasonSpec)

/-- ITS FALSE NEIGHBOUR: 'it returns false'. Refute it at one input. -/
def levelsReasonWrong : ChangeSpec := { name := "levelsReason", fn := fun _ => fun
  | [d1, d2] => { results := [.lit (.bool false)], args := [d1, d2] }
  | _ => none }
def LevelsReasonWrongFalsely : Prop := levelsReasonRow.holds Try.pinned (OpenSpec.ofChange levelsReasonWrong)

/-- 'steeninglaw01.LevelsDiffer': WHATEVER THE INPUT: true; the input reads as it did. -/
def levelsDifferSpec : ChangeSpec := { name := "levelsDiffer", fn := fun _ => fun
  | [d1, d2, d3] => { results := [.lit (.bool true)], args := [d1, d2, d3] }
  | _ => none }
def levelsDifferRow : OpenClaim := { program := "ytplbaijdnpfdgaa", sum := "f59963235e1321c78c0923f1767d8c24bab9e25a8a78855621b71763fc92271f", func := "steening/steeninglaw01.LevelsDiffer", spec := "levelsDiffer", unfollowed := true, recurses := true, apart := false }
def LevelsDifferSaid : Prop := levelsDifferRow.holds Try.pinned (OpenSpec.ofChange levelsDifferSpec)

/-- ITS FALSE NEIGHBOUR: 'it returns false'. Refute it at one input. -/
def levelsDifferWrong : ChangeSpec := { name := "levelsDiffer", fn := fun _ => fun
  | [d1, d2, d3] => { results := [.lit (.bool false)], args := [d1, d2, d3] }
  | _ => none }
def LevelsDifferWrongFalsely : Prop := levelsDifferRow.holds Try.pinned (OpenSpec.ofChange levelsDifferWrong)

/-- 'steeninglaw01.LevelsLevel': WHATEVER THE INPUT: true; the input reads as it did. -/
def levelsLevelSpec : ChangeSpec := { name := "levelsLevel", fn := fun _ => fun
  | [d1, d2, d3] => { results := [.lit (.bool true)], args := [d1, d2, d3] }
  | _ => none }
def levelsLevelRow : OpenClaim := { program := "ytplbaijdnpfdgaa", sum := "f59963235e1321c78c0923f1767d8c24bab9e25a8a78855621b71763fc92271f", func := "steening/steeninglaw01.LevelsLevel", spec := "levelsLevel", unfollowed := true, recurses := true, apart := false }
def LevelsLevelSaid : Prop := levelsLevelRow.holds Try.pinned (OpenSpec.ofChange levelsLevelSpec)

/-- ITS FALSE NEIGHBOUR: 'it returns false'. Refute it at one input. -/
def levelsLevelWrong : ChangeSpec := { name := "levelsLevel", fn := fun _ => fun
  | [d1, d2, d3] => { results := [.lit (.bool false)], args := [d1, d2, d3] }
  | _ => none }
def LevelsLevelWrongFalsely : Prop := levelsLevelRow.holds Try.pinned (OpenSpec.ofChange levelsLevelWrong)

/-- 'steeninglaw01.LevelsMore': WHATEVER THE INPUT: true; the input reads as it did. -/
def levelsMoreSpec : ChangeSpec := { name := "levelsMore", fn := fun _ => fun
  | [d1, d2, d3] => { results := [.lit (.bool true)], args := [d1, d2, d3] }
  | _ => none }
def levelsMoreRow : OpenClaim := { program := "ytplbaijdnpfdgaa", sum := "f59963235e1321c78c0923f1767d8c24bab9e25a8a78855621b71763fc92271f", func := "steening/steeninglaw01.LevelsMore", spec := "levelsMore", unfollowed := true, recurses := true, apart := false }
def LevelsMoreSaid : Prop := levelsMoreRow.holds Try.pinned (OpenSpec.ofChange levelsMoreSpec)

/-- ITS FALSE NEIGHBOUR: 'it returns false'. Refute it at one input. -/
def levelsMoreWrong : ChangeSpec := { name := "levelsMore", fn := fun _ => fun
  | [d1, d2, d3] => { results := [.lit (.bool false)], args := [d1, d2, d3] }
  | _ => none }
def LevelsMoreWrongFalsely : Prop := levelsMoreRow.holds Try.pinned (OpenSpec.ofChange levelsMoreWrong)

/-- 'steeninglaw01.LevelsIdle': WHATEVER THE INPUT: true; the input reads as it did. -/
def levelsIdleSpec : ChangeSpec := { name := "levelsIdle", fn := fun _ => fun
  | [d] => { results := [.lit (.bool true)], args := [d] }
  | _ => none }
def levelsIdleRow : OpenClaim := { program := "ytplbaijdnpfdgaa", sum := "f59963235e1321c78c0923f1767d8c24bab9e25a8a78855621b71763fc92271f", func := "steening/steeninglaw01.LevelsIdle", spec := "levelsIdle", unfollowed := true, recurses := true, apart := false }
def LevelsIdleSaid : Prop := levelsIdleRow.holds Try.pinned (OpenSpec.ofChange levelsIdleSpec)

/-- ITS FALSE NEIGHBOUR: 'it returns false'. Refute it at one input. -/
def levelsIdleWrong : ChangeSpec := { name := "levelsIdle", fn := fun _ => fun
  | [d] => { results := [.lit (.bool false)], args := [d] }
  | _ => none }
def LevelsIdleWrongFalsely : Prop := levelsIdleRow.holds Try.pinned (OpenSpec.ofChange levelsIdleWrong)

/-- 'steeninglaw01.LevelsHolds': WHATEVER THE INPUT: true; the input reads as it did. -/
def levelsHoldsSpec : ChangeSpec := { name := "levelsHolds", fn := fun _ => fun
  | [d1, d2] => { results := [.lit (.bool true)], args := [d1, d2] }
  | _ => none }
def levelsHoldsRow : OpenClaim := { program := "ytplbaijdnpfdgaa", sum := "f59963235e1321c78c0923f1767d8c24bab9e25a8a78855621b71763fc92271f", func := "steening/steeninglaw01.LevelsHolds", spec := "levelsHolds", unfollowed := true, recurses := true, apart := false }
def LevelsHoldsSaid : Prop := levelsHoldsRow.holds Try.pinned (OpenSpec.ofChange levelsHoldsSpec)

/-- ITS FALSE NEIGHBOUR: 'it returns false'. Refute it at one input. -/
def levelsHoldsWrong : ChangeSpec := { name := "levelsHolds", fn := fun _ => fun
  | [d1, d2] => { results := [.lit (.bool false)], args := [d1, d2] }
  | _ => none }
def LevelsHoldsWrongFalsely : Prop := levelsHoldsRow.holds Try.pinned (OpenSpec.ofChange levelsHoldsWrong)

/-- 'steeninglaw01.LevelsTurned': WHATEVER THE INPUT: true; the input reads as it did. -/
def levelsTurnedSpec : ChangeSpec := { name := "levelsTurned", fn := fun _ => fun
  | [d] => { results := [.lit (.bool true)], args := [d] }
  | _ => none }
def levelsTurnedRow : OpenClaim := { program := "ytplbaijdnpfdgaa", sum := "f59963235e1321c78c0923f1767d8c24bab9e25a8a78855621b71763fc92271f", func := "steening/steeninglaw01.LevelsTurned", spec := "levelsTurned", unfollowed := true, recurses := true, apart := false }
def LevelsTurnedSaid : Prop := levelsTurnedRow.holds Try.pinned (OpenSpec.ofChange levelsTurnedSpec)

/-- ITS FALSE NEIGHBOUR: 'it returns false'. Refute it at one input. -/
def levelsTurnedWrong : ChangeSpec := { name := "levelsTurned", fn := fun _ => fun
  | [d] => { results := [.lit (.bool false)], args := [d] }
  | _ => none }
def LevelsTurnedWrongFalsely : Prop := levelsTurnedRow.holds Try.pinned (OpenSpec.ofChange levelsTurnedWrong)

/-- 'steeninglaw01.LevelsSilent': WHATEVER THE INPUT: true; the input reads as it did. -/
def levelsSilentSpec : ChangeSpec := { name := "levelsSilent", fn := fun _ => fun
  | [d] => { results := [.lit (.bool true)], args := [d] }
  | _ => none }
def levelsSilentRow : OpenClaim := { program := "ytplbaijdnpfdgaa", sum := "f59963235e1321c78c0923f1767d8c24bab9e25a8a78855621b71763fc92271f", func := "steening/steeninglaw01.LevelsSilent", spec := "levelsSilent", unfollowed := true, recurses := true, apart := false }
def LevelsSilentSaid : Prop := levelsSilentRow.holds Try.pinned (OpenSpec.ofChange levelsSilentSpec)

/-- ITS FALSE NEIGHBOUR: 'it returns false'. Refute it at one input. -/
def levelsSilentWrong : ChangeSpec := { name := "levelsSilent", fn := fun _ => fun
  | [d] => { results := [.lit (.bool false)], args := [d] }
  | _ => none }
def LevelsSilentWrongFalsely : Prop := levelsSilentRow.holds Try.pinned (OpenSpec.ofChange levelsSilentWrong)

/-- 'steeninglaw01.LevelsEach': WHATEVER THE INPUT: true; the input reads as it did. -/
def levelsEachSpec : ChangeSpec := { name := "levelsEach", fn := fun _ => fun
  | [d1, d2, d3] => { results := [.lit (.bool true)], args := [d1, d2, d3] }
  | _ => none }
def levelsEachRow : OpenClaim := { program := "ytplbaijdnpfdgaa", sum := "f59963235e1321c78c0923f1767d8c24bab9e25a8a78855621b71763fc92271f", func := "steening/steeninglaw01.LevelsEach", spec := "levelsEach", unfollowed := true, recurses := true, apart := false }
def LevelsEachSaid : Prop := levelsEachRow.holds Try.pinned (OpenSpec.ofChange levelsEachSpec)

/-- ITS FALSE NEIGHBOUR: 'it returns false'. Refute it at one input. -/
def levelsEachWrong : ChangeSpec := { name := "levelsEach", fn := fun _ => fun
  | [d1, d2, d3] => { results := [.lit (.bool false)], args := [d1, d2, d3] }
  | _ => none }
def LevelsEachWrongFalsely : Prop := levelsEachRow.holds Try.pinned (OpenSpec.ofChange levelsEachWrong)

/- THE SECOND FORM. 'bulk': how many values and letters a reading holds, each counted each time it is reached (what is shared counts as often as it is met; a slice's spare places count too). A statement '..UptoSaid' is the law's where the arguments, and the package variables that the reading takes, are together of bulk at most 1048576: NARROWER than '..Said'. Prove '..Said' where nothing that the law and all that it calls make is longer than what came in: it says more and counts as full. Else prove '..UptoSaid'. A law counts once. -/
mutual
def uptoBulk {H : Type} : DataW H → Nat
  | .lit (.string bytes) => bytes.length + 1
  | .lit _ => 1
  | .nil => 1
  | .ptr d => uptoBulk d + 1
  | .slice elems spare => uptoBulkAll elems + uptoBulkAll spare + 1
  | .agg parts => uptoBulkAll parts + 1
  | .iface _ d => uptoBulk d + 1
  | .map entries => uptoBulkEntries entries + 1
  | .held _ => 1
def uptoBulkAll {H : Type} : List (DataW H) → Nat
  | [] => 0
  | d :: r => uptoBulk d + uptoBulkAll r
def uptoBulkEntries {H : Type} : List (Lit × DataW H) → Nat
  | [] => 0
  | x :: r => uptoBulkEntry x + uptoBulkEntries r
def uptoBulkEntry {H : Type} : Lit × DataW H → Nat
  | (.string bytes, d) => bytes.length + uptoBulk d + 1
  | (_, d) => uptoBulk d + 1
 end
def uptoSmall : (H : Type) → List (DataW H) → Bool := fun _ ds => decide (uptoBulkAll ds ≤ 1048576)
def OpenSpec.upto (s : _root_.Go.ChangeSpec) : _root_.Go.OpenSpec := { _root_.Go.OpenSpec.ofChange s with cond := some uptoSmall }

/-- 'steeninglaw01.LevelsClash', WHERE WHAT IT READS IS OF BULK AT MOST 1048576: true; the input reads as it did. -/
def levelsClashUptoRow : OpenClaim := { program := "ytplbaijdnpfdgaa", sum := "f59963235e1321c78c0923f1767d8c24bab9e25a8a78855621b71763fc92271f", func := "steening/steeninglaw01.LevelsClash", spec := "levelsClash", unfollowed := true, recurses := true, apart := false, narrowed := true }
def LevelsClashUptoSaid : Prop := levelsClashUptoRow.holds Try.pinned (OpenSpec.upto levelsClashSpec)

/-- 'steeninglaw01.LevelsWhy', WHERE WHAT IT READS IS OF BULK AT MOST 1048576: true; the input reads as it did. -/
def levelsWhyUptoRow : OpenClaim := { program := "ytplbaijdnpfdgaa", sum := "f59963235e1321c78c0923f1767d8c24bab9e25a8a78855621b71763fc92271f", func := "steening/steeninglaw01.LevelsWhy", spec := "levelsWhy", unfollowed := true, recurses := true, apart := false, narrowed := true }
def LevelsWhyUptoSaid : Prop := levelsWhyUptoRow.holds Try.pinned (OpenSpec.upto levelsWhySpec)

/-- 'steeninglaw01.LevelsThree', WHERE WHAT IT READS IS OF BULK AT MOST 1048576: true; the input reads as it did. -/
def levelsThreeUptoRow : OpenClaim := { program := "ytplbaijdnpfdgaa", sum := "f59963235e1321c78c0923f1767d8c24bab9e25a8a78855621b71763fc92271f", func := "steening/steeninglaw01.LevelsThree", spec := "levelsThree", unfollowed := true, recurses := true, apart := false, narrowed := true }
def LevelsThreeUptoSaid : Prop := levelsThreeUptoRow.holds Try.pinned (OpenSpec.upto levelsThreeSpec)

/-- 'steeninglaw01.LevelsEnds', WHERE WHAT IT READS IS OF BULK AT MOST 1048576: true; the input reads as it did. -/
def levelsEndsUptoRow : OpenClaim := { program := "ytplbaijdnpfdgaa", sum := "f59963235e1321c78c0923f1767d8c24bab9e25a8a78855621b71763fc92271f", func := "steening/steeninglaw01.LevelsEnds", spec := "levelsEnds", unfollowed := true, recurses := true, apart := false, narrowed := true }
def LevelsEndsUptoSaid : Prop := levelsEndsUptoRow.holds Try.pinned (OpenSpec.upto levelsEndsSpec)

/-- 'steeninglaw01.LevelsDeeper', WHERE WHAT IT READS IS OF BULK AT MOST 1048576: true; the input reads as it did. -/
def levelsDeeperUptoRow : OpenClaim := { program := "ytplbaijdnpfdgaa", sum := "f59963235e1321c78c0923f1767d8c24bab9e25a8a78855621b71763fc92271f", func := "steening/steeninglaw01.LevelsDeeper", spec := "levelsDeeper", unfollowed := true, recurses := true, apart := false, narrowed := true }
def LevelsDeeperUptoSaid : Prop := levelsDeeperUptoRow.holds Try.pinned (OpenSpec.upto levelsDeeperSpec)

/-- 'steeninglaw01.LevelsContrary', WHERE WHAT IT READS IS OF BULK AT MOST 1048576: true; the input reads as it did. -/
def levelsContraryUptoRow : OpenClaim := { program := "ytplbaijdnpfdgaa", sum := "f59963235e1321c78c0923f1767d8c24bab9e25a8a78855621b71763fc92271f", func := "steening/steeninglaw01.LevelsContrary", spec := "levelsContrary", unfollowed := true, recurses := true, apart := false, narrowed := true }
def LevelsContraryUptoSaid : Prop := levelsContraryUptoRow.holds Try.pinned (OpenSpec.upto levelsContrarySpec)

/-- 'steeninglaw01.LevelsReason', WHERE WHAT IT READS IS OF BULK AT MOST 1048576: true; the input reads as it did. -/
def levelsReasonUptoRow : OpenClaim := { program := "ytplbaijdnpfdgaa", sum := "f59963235e1321c78c0923f1767d8c24bab9e25a8a78855621b71763fc92271f", func := "steening/steeninglaw01.LevelsReason", spec := "levelsReason", unfollowed := true, recurses := true, apart := false, narrowed := true }
def LevelsReasonUptoSaid : Prop := levelsReasonUptoRow.holds Try.pinned (OpenSpec.upto levelsReasonSpec)

/-- 'steeninglaw01.LevelsDiffer', WHERE WHAT IT READS IS OF BULK AT MOST 1048576: true; the input reads as it did. -/
def levelsDifferUptoRow : OpenClaim := { program := "ytplbaijdnpfdgaa", sum := "f59963235e1321c78c0923f1767d8c24bab9e25a8a78855621b71763fc92271f", func := "steening/steeninglaw01.LevelsDiffer", spec := "levelsDiffer", unfollowed := true, recurses := true, apart := false, narrowed := true }
def LevelsDifferUptoSaid : Prop := levelsDifferUptoRow.holds Try.pinned (OpenSpec.upto levelsDifferSpec)

/-- 'steeninglaw01.LevelsLevel', WHERE WHAT IT READS IS OF BULK AT MOST 1048576: true; the input reads as it did. -/
def levelsLevelUptoRow : OpenClaim := { program := "ytplbaijdnpfdgaa", sum := "f59963235e1321c78c0923f1767d8c24bab9e25a8a78855621b71763fc92271f", func := "steening/steeninglaw01.LevelsLevel", spec := "levelsLevel", unfollowed := true, recurses := true, apart := false, narrowed := true }
def LevelsLevelUptoSaid : Prop := levelsLevelUptoRow.holds Try.pinned (OpenSpec.upto levelsLevelSpec)

/-- 'steeninglaw01.LevelsMore', WHERE WHAT IT READS IS OF BULK AT MOST 1048576: true; the input reads as it did. -/
def levelsMoreUptoRow : OpenClaim := { program := "ytplbaijdnpfdgaa", sum := "f59963235e1321c78c0923f1767d8c24bab9e25a8a78855621b71763fc92271f", func := "steening/steeninglaw01.LevelsMore", spec := "levelsMore", unfollowed := true, recurses := true, apart := false, narrowed := true }
def LevelsMoreUptoSaid : Prop := levelsMoreUptoRow.holds Try.pinned (OpenSpec.upto levelsMoreSpec)

/-- 'steeninglaw01.LevelsIdle', WHERE WHAT IT READS IS OF BULK AT MOST 1048576: true; the input reads as it did. -/
def levelsIdleUptoRow : OpenClaim := { program := "ytplbaijdnpfdgaa", sum := "f59963235e1321c78c0923f1767d8c24bab9e25a8a78855621b71763fc92271f", func := "steening/steeninglaw01.LevelsIdle", spec := "levelsIdle", unfollowed := true, recurses := true, apart := false, narrowed := true }
def LevelsIdleUptoSaid : Prop := levelsIdleUptoRow.holds Try.pinned (OpenSpec.upto levelsIdleSpec)

/-- 'steeninglaw01.LevelsHolds', WHERE WHAT IT READS IS OF BULK AT MOST 1048576: true; the input reads as it did. -/
def levelsHoldsUptoRow : OpenClaim := { program := "ytplbaijdnpfdgaa", sum := "f59963235e1321c78c0923f1767d8c24bab9e25a8a78855621b71763fc92271f", func := "steening/steeninglaw01.LevelsHolds", spec := "levelsHolds", unfollowed := true, recurses := true, apart := false, narrowed := true }
def LevelsHoldsUptoSaid : Prop := levelsHoldsUptoRow.holds Try.pinned (OpenSpec.upto levelsHoldsSpec)

/-- 'steeninglaw01.LevelsTurned', WHERE WHAT IT READS IS OF BULK AT MOST 1048576: true; the input reads as it did. -/
def levelsTurnedUptoRow : OpenClaim := { program := "ytplbaijdnpfdgaa", sum := "f59963235e1321c78c0923f1767d8c24bab9e25a8a78855621b71763fc92271f", func := "steening/steeninglaw01.LevelsTurned", spec := "levelsTurned", unfollowed := true, recurses := true, apart := false, narrowed := true }
def LevelsTurnedUptoSaid : Prop := levelsTurnedUptoRow.holds Try.pinned (OpenSpec.upto levelsTurnedSpec)

/-- 'steeninglaw01.LevelsSilent', WHERE WHAT IT READS IS OF BULK AT MOST 1048576: true; the input reads as it did. -/
def levelsSilentUptoRow : OpenClaim := { program := "ytplbaijdnpfdgaa", sum := "f59963235e1321c78c0923f1767d8c24bab9e25a8a78855621b71763fc92271f", func := "steening/steeninglaw01.LevelsSilent", spec := "levelsSilent", unfollowed := true, recurses := true, apart := false, narrowed := true }
def LevelsSilentUptoSaid : Prop := levelsSilentUptoRow.holds Try.pinned (OpenSpec.upto levelsSilentSpec)

/-- 'steeninglaw01.LevelsEach', WHERE WHAT IT READS IS OF BULK AT MOST 1048576: true; the input reads as it did. -/
def levelsEachUptoRow : OpenClaim := { program := "ytplbaijdnpfdgaa", sum := "f59963235e1321c78c0923f1767d8c24bab9e25a8a78855621b71763fc92271f", func := "steening/steeninglaw01.LevelsEach", spec := "levelsEach", unfollowed := true, recurses := true, apart := false, narrowed := true }
def LevelsEachUptoSaid : Prop := levelsEachUptoRow.holds Try.pinned (OpenSpec.upto levelsEachSpec)

end Rows
end Go.Proofs.Ytplbaijdnpfdgaa
