/-
  DERIVED. GIVEN WITH THE SEED: THE CARDS: each row of YtldcehhhndlhdaaDoorRows.lean that lists a variable, with what it lists TIED to the program's text (the seventh form; the later family's looks); each row that meets fmt, with fmt's text TOLD by the authors' own Lean function (tested against real Go, not proved from fmt's source: count such statements apart). THE CARD IS WHAT COUNTS. Prove the row's statement (the work); the ties are given (YtldcehhhndlhdaaDoorTie.lean); close each card by the builder's one call (the guide's Derived/Test/ToyasCard.lean, 'card_holds'). Laid BY PROGRAM, IN A SANDBOX (cutbox-door.mjs). By AI agents, Wed Nov 11 2026. No macro, syntax, notation, axiom, sorry.
-/
import Derived.Test.YtldcehhhndlhdaaDoorRows
import GoSem.ClaimSeven
namespace Go.Proofs.YtldcehhhndlhdaaDoor
namespace Rows

/-- THE TIED CARD OF 'steeningtop.TopSounded'. -/
def topSoundedCard : Claim7 := { stood := { row := topSoundedRow, standIns := [], harness := (true, "e16163760818e4d7516cb4eb3bd078934d68872665479cd6264120cb03eb1f94"), looks := false }, kinds := [], alts := [], laidByText := true, laidKinds := [.data, .data], laidTests := true, laidLooks := .later }
def TopSoundedCardSaid : Prop := Claim7.holds Tryd.pinned (.plain (OpenSpec.ofChange topSoundedSpec)) topSoundedCard

/-- THE TIED CARD OF 'steeningtop.TopDrawn'. -/
def topDrawnCard : Claim7 := { stood := { row := topDrawnRow, standIns := [], harness := (true, "e16163760818e4d7516cb4eb3bd078934d68872665479cd6264120cb03eb1f94"), looks := false }, kinds := [], alts := [], laidByText := true, laidKinds := [.data], laidTests := true, laidLooks := .later }
def TopDrawnCardSaid : Prop := Claim7.holds Tryd.pinned (.plain (OpenSpec.ofChange topDrawnSpec)) topDrawnCard

/-- THE SECOND FORM's CARD OF 'steeningtop.TopSounded'. -/
def topSoundedUptoCard : Claim7 := { stood := { row := topSoundedUptoRow, standIns := [], harness := (true, "e16163760818e4d7516cb4eb3bd078934d68872665479cd6264120cb03eb1f94"), looks := false }, kinds := [], alts := [], laidByText := true, laidKinds := [.data, .data], laidTests := true, laidLooks := .later }
def TopSoundedUptoCardSaid : Prop := Claim7.holds Tryd.pinned (.plain (OpenSpec.upto topSoundedSpec)) topSoundedUptoCard

/-- THE SECOND FORM's CARD OF 'steeningtop.TopDrawn'. -/
def topDrawnUptoCard : Claim7 := { stood := { row := topDrawnUptoRow, standIns := [], harness := (true, "e16163760818e4d7516cb4eb3bd078934d68872665479cd6264120cb03eb1f94"), looks := false }, kinds := [], alts := [], laidByText := true, laidKinds := [.data], laidTests := true, laidLooks := .later }
def TopDrawnUptoCardSaid : Prop := Claim7.holds Tryd.pinned (.plain (OpenSpec.upto topDrawnSpec)) topDrawnUptoCard
end Rows
end Go.Proofs.YtldcehhhndlhdaaDoor
