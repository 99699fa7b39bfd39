/-
  DERIVED. GIVEN WITH THE SEED: THE CARDS: each row of YtfnfelmaidfppaaDoorRows.lean that lists a variable, with what it lists TIED to the program's text (the seventh form; the later family's looks); each row that meets fmt, with fmt's text TOLD by the authors' own Lean function (tested against real Go, not proved from fmt's source: count such statements apart). THE CARD IS WHAT COUNTS. Prove the row's statement (the work); the ties are given (YtfnfelmaidfppaaDoorTie.lean); close each card by the builder's one call (the guide's Derived/Test/ToyasCard.lean, 'card_holds'). Laid BY PROGRAM, IN A SANDBOX (cutbox-door.mjs). By AI agents, Wed Nov 11 2026. No macro, syntax, notation, axiom, sorry.
-/
import Derived.Test.YtfnfelmaidfppaaDoorRows
import GoSem.ClaimSeven
namespace Go.Proofs.YtfnfelmaidfppaaDoor
namespace Rows

/-- THE TIED CARD OF 'ferryhythelaw3.MaxminSays'. -/
def maxminSaysCard : Claim7 := { stood := { row := maxminSaysRow, standIns := [], harness := (true, "ad3f6e8ea36713cdc0bb525a5d3e917f3d77860b9bdec3c23e4d3084f6d2965a"), looks := true }, kinds := [], alts := [], laidByText := true, laidKinds := [.handle], laidTests := true, laidLooks := .later }
def MaxminSaysCardSaid : Prop := Claim7.holds Tryd.pinned (.plain (OpenSpec.ofChange maxminSaysSpec)) maxminSaysCard

/-- THE SECOND FORM's CARD OF 'ferryhythelaw3.MaxminSays'. -/
def maxminSaysUptoCard : Claim7 := { stood := { row := maxminSaysUptoRow, standIns := [], harness := (true, "ad3f6e8ea36713cdc0bb525a5d3e917f3d77860b9bdec3c23e4d3084f6d2965a"), looks := true }, kinds := [], alts := [], laidByText := true, laidKinds := [.handle], laidTests := true, laidLooks := .later }
def MaxminSaysUptoCardSaid : Prop := Claim7.holds Tryd.pinned (.plain (OpenSpec.upto maxminSaysSpec)) maxminSaysUptoCard
end Rows
end Go.Proofs.YtfnfelmaidfppaaDoor
