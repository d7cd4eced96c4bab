/-
  DERIVED. GIVEN WITH THE SEED: THE CARDS: each row of YtldcehhhndlhdaaGreatDoorRows.lean that lists a variable, with what it lists TIED to the program's text (the seventh form; the later family's looks); each row that meets fmt, with fmt's text TOLD by the authors' own Lean function (tested against real Go, not proved from fmt's source: count such statements apart). THE CARD IS WHAT COUNTS. Prove the row's statement (the work); the ties are given (YtldcehhhndlhdaaGreatDoorTie.lean); close each card by the builder's one call (the guide's Derived/Test/ToyasCard.lean, 'card_holds'). Laid BY PROGRAM, IN A SANDBOX (cutbox-door.mjs). By AI agents, Wed Nov 11 2026. No macro, syntax, notation, axiom, sorry.
-/
import Derived.Test.YtldcehhhndlhdaaGreatDoorRows
import GoSem.ClaimSeven
namespace Go.Proofs.YtldcehhhndlhdaaGreatDoor
namespace Rows

/-- THE TIED CARD OF 'steeningtop.TopRostered'. -/
def topRosteredCard : Claim7 := { stood := { row := topRosteredRow, standIns := [], harness := (true, "79f903836dbf93f9ac22b3247f04d5e6941fc34a78a9c372e84bd57b9ff02288"), looks := false }, kinds := [], alts := [], laidByText := true, laidKinds := [.data, .data, .data], laidTests := true, laidLooks := .later }
def TopRosteredCardSaid : Prop := Claim7.holds Tryz.pinned (.plain (OpenSpec.ofChange topRosteredSpec)) topRosteredCard

/-- THE SECOND FORM's CARD OF 'steeningtop.TopRostered'. -/
def topRosteredUptoCard : Claim7 := { stood := { row := topRosteredUptoRow, standIns := [], harness := (true, "79f903836dbf93f9ac22b3247f04d5e6941fc34a78a9c372e84bd57b9ff02288"), looks := false }, kinds := [], alts := [], laidByText := true, laidKinds := [.data, .data, .data], laidTests := true, laidLooks := .later }
def TopRosteredUptoCardSaid : Prop := Claim7.holds Tryz.pinned (.plain (OpenSpec.upto topRosteredSpec)) topRosteredUptoCard
end Rows
end Go.Proofs.YtldcehhhndlhdaaGreatDoor
