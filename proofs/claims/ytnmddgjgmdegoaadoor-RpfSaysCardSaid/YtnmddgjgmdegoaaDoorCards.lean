/-
  DERIVED. GIVEN WITH THE SEED: THE CARDS: each row of YtnmddgjgmdegoaaDoorRows.lean that lists a variable, with what it lists TIED to the program's text (the seventh form; the later family's looks); each row that meets fmt, with fmt's text TOLD by the authors' own Lean function (tested against real Go, not proved from fmt's source: count such statements apart). THE CARD IS WHAT COUNTS. Prove the row's statement (the work); the ties are given (YtnmddgjgmdegoaaDoorTie.lean); close each card by the builder's one call (the guide's Derived/Test/ToyasCard.lean, 'card_holds'). Laid BY PROGRAM, IN A SANDBOX (cutbox-door.mjs). By AI agents, Wed Nov 11 2026. No macro, syntax, notation, axiom, sorry.
-/
import Derived.Test.YtnmddgjgmdegoaaDoorRows
import GoSem.ClaimSeven
namespace Go.Proofs.YtnmddgjgmdegoaaDoor
namespace Rows

/-- THE TIED CARD OF 'ferryhythelaw4.NatBack'. -/
def natBackCard : Claim7 := { stood := { row := natBackRow, standIns := [], harness := (true, "c3f56d7aca8afb591bcdc366beeadd1be783b50c795fed52ab51eb200a9f93b7"), looks := true }, kinds := [], alts := [], laidByText := true, laidKinds := [.handle], laidTests := true, laidLooks := .later }
def NatBackCardSaid : Prop := Claim7.holds Tryd.pinned (.plain (OpenSpec.ofChange natBackSpec)) natBackCard

/-- THE TIED CARD OF 'ferryhythelaw4.NatApart'. -/
def natApartCard : Claim7 := { stood := { row := natApartRow, standIns := [], harness := (true, "c3f56d7aca8afb591bcdc366beeadd1be783b50c795fed52ab51eb200a9f93b7"), looks := true }, kinds := [], alts := [], laidByText := true, laidKinds := [.handle], laidTests := true, laidLooks := .later }
def NatApartCardSaid : Prop := Claim7.holds Tryd.pinned (.plain (OpenSpec.ofChange natApartSpec)) natApartCard

/-- THE TIED CARD OF 'ferryhythelaw4.NatFull'. -/
def natFullCard : Claim7 := { stood := { row := natFullRow, standIns := [], harness := (true, "c3f56d7aca8afb591bcdc366beeadd1be783b50c795fed52ab51eb200a9f93b7"), looks := true }, kinds := [], alts := [], laidByText := true, laidKinds := [.handle], laidTests := true, laidLooks := .later }
def NatFullCardSaid : Prop := Claim7.holds Tryd.pinned (.plain (OpenSpec.ofChange natFullSpec)) natFullCard

/-- THE TIED CARD OF 'ferryhythelaw4.NatPlays'. -/
def natPlaysCard : Claim7 := { stood := { row := natPlaysRow, standIns := [], harness := (true, "c3f56d7aca8afb591bcdc366beeadd1be783b50c795fed52ab51eb200a9f93b7"), looks := true }, kinds := [], alts := [], laidByText := true, laidKinds := [.handle], laidTests := true, laidLooks := .later }
def NatPlaysCardSaid : Prop := Claim7.holds Tryd.pinned (.plain (OpenSpec.ofChange natPlaysSpec)) natPlaysCard

/-- THE TIED CARD OF 'ferryhythelaw3.RpfSays'. -/
def rpfSaysCard : Claim7 := { stood := { row := rpfSaysRow, standIns := [], harness := (true, "c3f56d7aca8afb591bcdc366beeadd1be783b50c795fed52ab51eb200a9f93b7"), looks := true }, kinds := [], alts := [], laidByText := true, laidKinds := [.handle], laidTests := true, laidLooks := .later }
def RpfSaysCardSaid : Prop := Claim7.holds Tryd.pinned (.plain (OpenSpec.ofChange rpfSaysSpec)) rpfSaysCard

/-- THE SECOND FORM's CARD OF 'ferryhythelaw4.NatBack'. -/
def natBackUptoCard : Claim7 := { stood := { row := natBackUptoRow, standIns := [], harness := (true, "c3f56d7aca8afb591bcdc366beeadd1be783b50c795fed52ab51eb200a9f93b7"), looks := true }, kinds := [], alts := [], laidByText := true, laidKinds := [.handle], laidTests := true, laidLooks := .later }
def NatBackUptoCardSaid : Prop := Claim7.holds Tryd.pinned (.plain (OpenSpec.upto natBackSpec)) natBackUptoCard

/-- THE SECOND FORM's CARD OF 'ferryhythelaw4.NatApart'. -/
def natApartUptoCard : Claim7 := { stood := { row := natApartUptoRow, standIns := [], harness := (true, "c3f56d7aca8afb591bcdc366beeadd1be783b50c795fed52ab51eb200a9f93b7"), looks := true }, kinds := [], alts := [], laidByText := true, laidKinds := [.handle], laidTests := true, laidLooks := .later }
def NatApartUptoCardSaid : Prop := Claim7.holds Tryd.pinned (.plain (OpenSpec.upto natApartSpec)) natApartUptoCard

/-- THE SECOND FORM's CARD OF 'ferryhythelaw4.NatFull'. -/
def natFullUptoCard : Claim7 := { stood := { row := natFullUptoRow, standIns := [], harness := (true, "c3f56d7aca8afb591bcdc366beeadd1be783b50c795fed52ab51eb200a9f93b7"), looks := true }, kinds := [], alts := [], laidByText := true, laidKinds := [.handle], laidTests := true, laidLooks := .later }
def NatFullUptoCardSaid : Prop := Claim7.holds Tryd.pinned (.plain (OpenSpec.upto natFullSpec)) natFullUptoCard

/-- THE SECOND FORM's CARD OF 'ferryhythelaw4.NatPlays'. -/
def natPlaysUptoCard : Claim7 := { stood := { row := natPlaysUptoRow, standIns := [], harness := (true, "c3f56d7aca8afb591bcdc366beeadd1be783b50c795fed52ab51eb200a9f93b7"), looks := true }, kinds := [], alts := [], laidByText := true, laidKinds := [.handle], laidTests := true, laidLooks := .later }
def NatPlaysUptoCardSaid : Prop := Claim7.holds Tryd.pinned (.plain (OpenSpec.upto natPlaysSpec)) natPlaysUptoCard

/-- THE SECOND FORM's CARD OF 'ferryhythelaw3.RpfSays'. -/
def rpfSaysUptoCard : Claim7 := { stood := { row := rpfSaysUptoRow, standIns := [], harness := (true, "c3f56d7aca8afb591bcdc366beeadd1be783b50c795fed52ab51eb200a9f93b7"), looks := true }, kinds := [], alts := [], laidByText := true, laidKinds := [.handle], laidTests := true, laidLooks := .later }
def RpfSaysUptoCardSaid : Prop := Claim7.holds Tryd.pinned (.plain (OpenSpec.upto rpfSaysSpec)) rpfSaysUptoCard
end Rows
end Go.Proofs.YtnmddgjgmdegoaaDoor
