/-
  DERIVED. GIVEN WITH THE SEED: THE CARDS: each row of YtommedhaaojgiaaDoorRows.lean that lists a variable, with what it lists TIED to the program's text (the seventh form; the later family's looks); each row that meets fmt, with fmt's text TOLD by the authors' own Lean function (tested against real Go, not proved from fmt's source: count such statements apart). THE CARD IS WHAT COUNTS. Prove the row's statement (the work); the ties are given (YtommedhaaojgiaaDoorTie.lean); close each card by the builder's one call (the guide's Derived/Test/ToyasCard.lean, 'card_holds'). Laid BY PROGRAM, IN A SANDBOX (cutbox-door.mjs). By AI agents, Wed Nov 11 2026. No macro, syntax, notation, axiom, sorry.
-/
import Derived.Test.YtommedhaaojgiaaDoorRows
import GoSem.ClaimSeven
namespace Go.Proofs.YtommedhaaojgiaaDoor
namespace Rows

/-- THE TIED CARD OF 'ferryhythelaw3.LearnForgets'. -/
def learnForgetsCard : Claim7 := { stood := { row := learnForgetsRow, standIns := [], harness := (true, "5e947c37295bd48f3dff5b1ac7dbe82af8ff4bad2e7df2de6ccc76367136c096"), looks := true }, kinds := [], alts := [], laidByText := true, laidKinds := [.handle], laidTests := true, laidLooks := .later }
def LearnForgetsCardSaid : Prop := Claim7.holds Tryd.pinned (.plain (OpenSpec.ofChange learnForgetsSpec)) learnForgetsCard

/-- THE TIED CARD OF 'ferryhythelaw3.LearnPlays'. -/
def learnPlaysCard : Claim7 := { stood := { row := learnPlaysRow, standIns := [], harness := (true, "5e947c37295bd48f3dff5b1ac7dbe82af8ff4bad2e7df2de6ccc76367136c096"), looks := true }, kinds := [], alts := [], laidByText := true, laidKinds := [.handle], laidTests := true, laidLooks := .later }
def LearnPlaysCardSaid : Prop := Claim7.holds Tryd.pinned (.plain (OpenSpec.ofChange learnPlaysSpec)) learnPlaysCard

/-- THE TIED CARD OF 'ferryhythelaw3.DrrSays'. -/
def drrSaysCard : Claim7 := { stood := { row := drrSaysRow, standIns := [], harness := (true, "5e947c37295bd48f3dff5b1ac7dbe82af8ff4bad2e7df2de6ccc76367136c096"), looks := true }, kinds := [], alts := [], laidByText := true, laidKinds := [.handle], laidTests := true, laidLooks := .later }
def DrrSaysCardSaid : Prop := Claim7.holds Tryd.pinned (.plain (OpenSpec.ofChange drrSaysSpec)) drrSaysCard

/-- THE TIED CARD OF 'ferryhythelaw4.RingSays'. -/
def ringSaysCard : Claim7 := { stood := { row := ringSaysRow, standIns := [], harness := (true, "5e947c37295bd48f3dff5b1ac7dbe82af8ff4bad2e7df2de6ccc76367136c096"), looks := true }, kinds := [], alts := [], laidByText := true, laidKinds := [.handle], laidTests := true, laidLooks := .later }
def RingSaysCardSaid : Prop := Claim7.holds Tryd.pinned (.plain (OpenSpec.ofChange ringSaysSpec)) ringSaysCard

/-- THE SECOND FORM's CARD OF 'ferryhythelaw3.LearnForgets'. -/
def learnForgetsUptoCard : Claim7 := { stood := { row := learnForgetsUptoRow, standIns := [], harness := (true, "5e947c37295bd48f3dff5b1ac7dbe82af8ff4bad2e7df2de6ccc76367136c096"), looks := true }, kinds := [], alts := [], laidByText := true, laidKinds := [.handle], laidTests := true, laidLooks := .later }
def LearnForgetsUptoCardSaid : Prop := Claim7.holds Tryd.pinned (.plain (OpenSpec.upto learnForgetsSpec)) learnForgetsUptoCard

/-- THE SECOND FORM's CARD OF 'ferryhythelaw3.LearnPlays'. -/
def learnPlaysUptoCard : Claim7 := { stood := { row := learnPlaysUptoRow, standIns := [], harness := (true, "5e947c37295bd48f3dff5b1ac7dbe82af8ff4bad2e7df2de6ccc76367136c096"), looks := true }, kinds := [], alts := [], laidByText := true, laidKinds := [.handle], laidTests := true, laidLooks := .later }
def LearnPlaysUptoCardSaid : Prop := Claim7.holds Tryd.pinned (.plain (OpenSpec.upto learnPlaysSpec)) learnPlaysUptoCard

/-- THE SECOND FORM's CARD OF 'ferryhythelaw3.DrrSays'. -/
def drrSaysUptoCard : Claim7 := { stood := { row := drrSaysUptoRow, standIns := [], harness := (true, "5e947c37295bd48f3dff5b1ac7dbe82af8ff4bad2e7df2de6ccc76367136c096"), looks := true }, kinds := [], alts := [], laidByText := true, laidKinds := [.handle], laidTests := true, laidLooks := .later }
def DrrSaysUptoCardSaid : Prop := Claim7.holds Tryd.pinned (.plain (OpenSpec.upto drrSaysSpec)) drrSaysUptoCard

/-- THE SECOND FORM's CARD OF 'ferryhythelaw4.RingSays'. -/
def ringSaysUptoCard : Claim7 := { stood := { row := ringSaysUptoRow, standIns := [], harness := (true, "5e947c37295bd48f3dff5b1ac7dbe82af8ff4bad2e7df2de6ccc76367136c096"), looks := true }, kinds := [], alts := [], laidByText := true, laidKinds := [.handle], laidTests := true, laidLooks := .later }
def RingSaysUptoCardSaid : Prop := Claim7.holds Tryd.pinned (.plain (OpenSpec.upto ringSaysSpec)) ringSaysUptoCard
end Rows
end Go.Proofs.YtommedhaaojgiaaDoor
