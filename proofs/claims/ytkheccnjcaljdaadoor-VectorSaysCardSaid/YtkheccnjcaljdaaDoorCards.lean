/-
  DERIVED. GIVEN WITH THE SEED: THE CARDS: each row of YtkheccnjcaljdaaDoorRows.lean that lists a variable, with what it lists TIED to the program's text (the seventh form; the later family's looks); each row that meets fmt, with fmt's text TOLD by the authors' own Lean function (tested against real Go, not proved from fmt's source: count such statements apart). THE CARD IS WHAT COUNTS. Prove the row's statement (the work); the ties are given (YtkheccnjcaljdaaDoorTie.lean); close each card by the builder's one call (the guide's Derived/Test/ToyasCard.lean, 'card_holds'). Laid BY PROGRAM, IN A SANDBOX (cutbox-door.mjs). By AI agents, Wed Nov 11 2026. No macro, syntax, notation, axiom, sorry.
-/
import Derived.Test.YtkheccnjcaljdaaDoorRows
import GoSem.ClaimSeven
namespace Go.Proofs.YtkheccnjcaljdaaDoor
namespace Rows

/-- THE TIED CARD OF 'ferryhythelaw3.VectorSays'. -/
def vectorSaysCard : Claim7 := { stood := { row := vectorSaysRow, standIns := [], harness := (true, "ff8d324dda52b59794c1625039f3eade5805f29f53a2a4ce11db119fbd08a1d8"), looks := true }, kinds := [], alts := [], laidByText := true, laidKinds := [.handle], laidTests := true, laidLooks := .later }
def VectorSaysCardSaid : Prop := Claim7.holds Tryd.pinned (.plain (OpenSpec.ofChange vectorSaysSpec)) vectorSaysCard

/-- THE TIED CARD OF 'ferryhythelaw3.StpSays'. -/
def stpSaysCard : Claim7 := { stood := { row := stpSaysRow, standIns := [], harness := (true, "ff8d324dda52b59794c1625039f3eade5805f29f53a2a4ce11db119fbd08a1d8"), looks := true }, kinds := [], alts := [], laidByText := true, laidKinds := [.handle], laidTests := true, laidLooks := .later }
def StpSaysCardSaid : Prop := Claim7.holds Tryd.pinned (.plain (OpenSpec.ofChange stpSaysSpec)) stpSaysCard

/-- THE TIED CARD OF 'ferryhythelaw3.RoundsSay'. -/
def roundsSayCard : Claim7 := { stood := { row := roundsSayRow, standIns := [], harness := (true, "ff8d324dda52b59794c1625039f3eade5805f29f53a2a4ce11db119fbd08a1d8"), looks := true }, kinds := [], alts := [], laidByText := true, laidKinds := [.handle], laidTests := true, laidLooks := .later }
def RoundsSayCardSaid : Prop := Claim7.holds Tryd.pinned (.plain (OpenSpec.ofChange roundsSaySpec)) roundsSayCard

/-- THE SECOND FORM's CARD OF 'ferryhythelaw3.VectorSays'. -/
def vectorSaysUptoCard : Claim7 := { stood := { row := vectorSaysUptoRow, standIns := [], harness := (true, "ff8d324dda52b59794c1625039f3eade5805f29f53a2a4ce11db119fbd08a1d8"), looks := true }, kinds := [], alts := [], laidByText := true, laidKinds := [.handle], laidTests := true, laidLooks := .later }
def VectorSaysUptoCardSaid : Prop := Claim7.holds Tryd.pinned (.plain (OpenSpec.upto vectorSaysSpec)) vectorSaysUptoCard

/-- THE SECOND FORM's CARD OF 'ferryhythelaw3.StpSays'. -/
def stpSaysUptoCard : Claim7 := { stood := { row := stpSaysUptoRow, standIns := [], harness := (true, "ff8d324dda52b59794c1625039f3eade5805f29f53a2a4ce11db119fbd08a1d8"), looks := true }, kinds := [], alts := [], laidByText := true, laidKinds := [.handle], laidTests := true, laidLooks := .later }
def StpSaysUptoCardSaid : Prop := Claim7.holds Tryd.pinned (.plain (OpenSpec.upto stpSaysSpec)) stpSaysUptoCard

/-- THE SECOND FORM's CARD OF 'ferryhythelaw3.RoundsSay'. -/
def roundsSayUptoCard : Claim7 := { stood := { row := roundsSayUptoRow, standIns := [], harness := (true, "ff8d324dda52b59794c1625039f3eade5805f29f53a2a4ce11db119fbd08a1d8"), looks := true }, kinds := [], alts := [], laidByText := true, laidKinds := [.handle], laidTests := true, laidLooks := .later }
def RoundsSayUptoCardSaid : Prop := Claim7.holds Tryd.pinned (.plain (OpenSpec.upto roundsSaySpec)) roundsSayUptoCard
end Rows
end Go.Proofs.YtkheccnjcaljdaaDoor
