/-
  DERIVED. GIVEN WITH THE SEED: THE CARDS: each row of YthnlpmjfibidcaaDoorRows.lean that lists a variable, with what it lists TIED to the program's text (the seventh form; the later family's looks); each row that meets fmt, with fmt's text TOLD by the authors' own Lean function (tested against real Go, not proved from fmt's source: count such statements apart). THE CARD IS WHAT COUNTS. Prove the row's statement (the work); the ties are given (YthnlpmjfibidcaaDoorTie.lean); close each card by the builder's one call (the guide's Derived/Test/ToyasCard.lean, 'card_holds'). Laid BY PROGRAM, IN A SANDBOX (cutbox-door.mjs). By AI agents, Wed Nov 11 2026. No macro, syntax, notation, axiom, sorry.
-/
import Derived.Test.YthnlpmjfibidcaaDoorRows
import GoSem.ClaimSeven
namespace Go.Proofs.YthnlpmjfibidcaaDoor
namespace Rows

/-- THE TIED CARD OF 'ferryhythelaw4.MuxClash'. -/
def muxClashCard : Claim7 := { stood := { row := muxClashRow, standIns := [], harness := (true, "0f2dcf22b5befbf5c3d0fbcb08ad3f3782dfb558b7a2a78a159a5ed804ef7c4b"), looks := true }, kinds := [], alts := [], laidByText := true, laidKinds := [.handle], laidTests := true, laidLooks := .later }
def MuxClashCardSaid : Prop := Claim7.holds Tryd.pinned (.plain (OpenSpec.ofChange muxClashSpec)) muxClashCard

/-- THE TIED CARD OF 'ferryhythelaw4.MuxPlays'. -/
def muxPlaysCard : Claim7 := { stood := { row := muxPlaysRow, standIns := [], harness := (true, "0f2dcf22b5befbf5c3d0fbcb08ad3f3782dfb558b7a2a78a159a5ed804ef7c4b"), looks := true }, kinds := [], alts := [], laidByText := true, laidKinds := [.handle], laidTests := true, laidLooks := .later }
def MuxPlaysCardSaid : Prop := Claim7.holds Tryd.pinned (.plain (OpenSpec.ofChange muxPlaysSpec)) muxPlaysCard

/-- THE TIED CARD OF 'ferryhythelaw4.RetrySays'. -/
def retrySaysCard : Claim7 := { stood := { row := retrySaysRow, standIns := [], harness := (true, "0f2dcf22b5befbf5c3d0fbcb08ad3f3782dfb558b7a2a78a159a5ed804ef7c4b"), looks := true }, kinds := [], alts := [], laidByText := true, laidKinds := [.handle], laidTests := true, laidLooks := .later }
def RetrySaysCardSaid : Prop := Claim7.holds Tryd.pinned (.plain (OpenSpec.ofChange retrySaysSpec)) retrySaysCard

/-- THE SECOND FORM's CARD OF 'ferryhythelaw4.MuxClash'. -/
def muxClashUptoCard : Claim7 := { stood := { row := muxClashUptoRow, standIns := [], harness := (true, "0f2dcf22b5befbf5c3d0fbcb08ad3f3782dfb558b7a2a78a159a5ed804ef7c4b"), looks := true }, kinds := [], alts := [], laidByText := true, laidKinds := [.handle], laidTests := true, laidLooks := .later }
def MuxClashUptoCardSaid : Prop := Claim7.holds Tryd.pinned (.plain (OpenSpec.upto muxClashSpec)) muxClashUptoCard

/-- THE SECOND FORM's CARD OF 'ferryhythelaw4.MuxPlays'. -/
def muxPlaysUptoCard : Claim7 := { stood := { row := muxPlaysUptoRow, standIns := [], harness := (true, "0f2dcf22b5befbf5c3d0fbcb08ad3f3782dfb558b7a2a78a159a5ed804ef7c4b"), looks := true }, kinds := [], alts := [], laidByText := true, laidKinds := [.handle], laidTests := true, laidLooks := .later }
def MuxPlaysUptoCardSaid : Prop := Claim7.holds Tryd.pinned (.plain (OpenSpec.upto muxPlaysSpec)) muxPlaysUptoCard

/-- THE SECOND FORM's CARD OF 'ferryhythelaw4.RetrySays'. -/
def retrySaysUptoCard : Claim7 := { stood := { row := retrySaysUptoRow, standIns := [], harness := (true, "0f2dcf22b5befbf5c3d0fbcb08ad3f3782dfb558b7a2a78a159a5ed804ef7c4b"), looks := true }, kinds := [], alts := [], laidByText := true, laidKinds := [.handle], laidTests := true, laidLooks := .later }
def RetrySaysUptoCardSaid : Prop := Claim7.holds Tryd.pinned (.plain (OpenSpec.upto retrySaysSpec)) retrySaysUptoCard
end Rows
end Go.Proofs.YthnlpmjfibidcaaDoor
