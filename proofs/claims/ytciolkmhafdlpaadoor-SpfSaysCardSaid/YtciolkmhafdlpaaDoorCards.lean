/-
  DERIVED. GIVEN WITH THE SEED: THE CARDS: each row of YtciolkmhafdlpaaDoorRows.lean that lists a variable, with what it lists TIED to the program's text (the seventh form; the later family's looks); each row that meets fmt, with fmt's text TOLD by the authors' own Lean function (tested against real Go, not proved from fmt's source: count such statements apart). THE CARD IS WHAT COUNTS. Prove the row's statement (the work); the ties are given (YtciolkmhafdlpaaDoorTie.lean); close each card by the builder's one call (the guide's Derived/Test/ToyasCard.lean, 'card_holds'). Laid BY PROGRAM, IN A SANDBOX (cutbox-door.mjs). By AI agents, Wed Nov 11 2026. No macro, syntax, notation, axiom, sorry.
-/
import Derived.Test.YtciolkmhafdlpaaDoorRows
import GoSem.ClaimSeven
namespace Go.Proofs.YtciolkmhafdlpaaDoor
namespace Rows

/-- THE TIED CARD OF 'ferryhythelaw3.MaxminSays'. -/
def maxminSaysCard : Claim7 := { stood := { row := maxminSaysRow, standIns := [], harness := (true, "e40fbb8b99904938f8b4e3f458c7e3a90831f9f1154a0339df0da72ecc204e55"), looks := true }, kinds := [], alts := [], laidByText := true, laidKinds := [.handle], laidTests := true, laidLooks := .later }
def MaxminSaysCardSaid : Prop := Claim7.holds Tryd.pinned (.plain (OpenSpec.ofChange maxminSaysSpec)) maxminSaysCard

/-- THE TIED CARD OF 'ferryhythelaw3.SpfSays'. -/
def spfSaysCard : Claim7 := { stood := { row := spfSaysRow, standIns := [], harness := (true, "e40fbb8b99904938f8b4e3f458c7e3a90831f9f1154a0339df0da72ecc204e55"), looks := true }, kinds := [], alts := [], laidByText := true, laidKinds := [.handle], laidTests := true, laidLooks := .later }
def SpfSaysCardSaid : Prop := Claim7.holds Tryd.pinned (.plain (OpenSpec.ofChange spfSaysSpec)) spfSaysCard

/-- THE SECOND FORM's CARD OF 'ferryhythelaw3.MaxminSays'. -/
def maxminSaysUptoCard : Claim7 := { stood := { row := maxminSaysUptoRow, standIns := [], harness := (true, "e40fbb8b99904938f8b4e3f458c7e3a90831f9f1154a0339df0da72ecc204e55"), looks := true }, kinds := [], alts := [], laidByText := true, laidKinds := [.handle], laidTests := true, laidLooks := .later }
def MaxminSaysUptoCardSaid : Prop := Claim7.holds Tryd.pinned (.plain (OpenSpec.upto maxminSaysSpec)) maxminSaysUptoCard

/-- THE SECOND FORM's CARD OF 'ferryhythelaw3.SpfSays'. -/
def spfSaysUptoCard : Claim7 := { stood := { row := spfSaysUptoRow, standIns := [], harness := (true, "e40fbb8b99904938f8b4e3f458c7e3a90831f9f1154a0339df0da72ecc204e55"), looks := true }, kinds := [], alts := [], laidByText := true, laidKinds := [.handle], laidTests := true, laidLooks := .later }
def SpfSaysUptoCardSaid : Prop := Claim7.holds Tryd.pinned (.plain (OpenSpec.upto spfSaysSpec)) spfSaysUptoCard
end Rows
end Go.Proofs.YtciolkmhafdlpaaDoor
