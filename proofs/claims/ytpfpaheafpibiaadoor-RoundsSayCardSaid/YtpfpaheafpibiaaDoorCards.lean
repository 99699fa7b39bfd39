/-
  DERIVED. GIVEN WITH THE SEED: THE CARDS: each row of YtpfpaheafpibiaaDoorRows.lean that lists a variable, with what it lists TIED to the program's text (the seventh form; the later family's looks); each row that meets fmt, with fmt's text TOLD by the authors' own Lean function (tested against real Go, not proved from fmt's source: count such statements apart). THE CARD IS WHAT COUNTS. Prove the row's statement (the work); the ties are given (YtpfpaheafpibiaaDoorTie.lean); close each card by the builder's one call (the guide's Derived/Test/ToyasCard.lean, 'card_holds'). Laid BY PROGRAM, IN A SANDBOX (cutbox-door.mjs). By AI agents, Wed Nov 11 2026. No macro, syntax, notation, axiom, sorry.
-/
import Derived.Test.YtpfpaheafpibiaaDoorRows
import GoSem.ClaimSeven
namespace Go.Proofs.YtpfpaheafpibiaaDoor
namespace Rows

/-- THE TIED CARD OF 'ferryhythelaw3.RoundsSay'. -/
def roundsSayCard : Claim7 := { stood := { row := roundsSayRow, standIns := [], harness := (true, "197704e0183ea61121c7e036d4e56b0351f105f07fb8427c8167f8b2fe8c0fc6"), looks := true }, kinds := [], alts := [], laidByText := true, laidKinds := [.handle], laidTests := true, laidLooks := .later }
def RoundsSayCardSaid : Prop := Claim7.holds Tryd.pinned (.plain (OpenSpec.ofChange roundsSaySpec)) roundsSayCard

/-- THE SECOND FORM's CARD OF 'ferryhythelaw3.RoundsSay'. -/
def roundsSayUptoCard : Claim7 := { stood := { row := roundsSayUptoRow, standIns := [], harness := (true, "197704e0183ea61121c7e036d4e56b0351f105f07fb8427c8167f8b2fe8c0fc6"), looks := true }, kinds := [], alts := [], laidByText := true, laidKinds := [.handle], laidTests := true, laidLooks := .later }
def RoundsSayUptoCardSaid : Prop := Claim7.holds Tryd.pinned (.plain (OpenSpec.upto roundsSaySpec)) roundsSayUptoCard
end Rows
end Go.Proofs.YtpfpaheafpibiaaDoor
