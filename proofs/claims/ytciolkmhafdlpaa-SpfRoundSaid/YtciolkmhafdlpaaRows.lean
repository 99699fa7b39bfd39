/-
  No cell of these rows narrows 'for every input' (looked for: loops, veiled, ifaces, maps, wideKeys, modest, calm, conditions, laid).
  DERIVED. THE GIVEN ROWS OF THIS SEAT. 8 by the template 'for every input the law returns true; each argument reads behind the call as it read before'; 0 by the template 'total and deterministic' (their statements: YtciolkmhafdlpaaTotals.lean).
  GIVEN WITH THE SEED: the statements are not yours to turn. If you find one false, say at which input.
  Laid BY PROGRAM, IN A SANDBOX (cutbox-rows.mjs): the forced cells as the released guide's own fill.sh prints them over the translation 93b7a263ccbbae18… (all of the seat's roots in one cut). By AI agents, Wed Nov 11 2026. No macro, syntax, notation, axiom, sorry.
-/
import Derived.Test.YtciolkmhafdlpaaChecked
import GoSem.Claim
import GoSem.ClaimJoined
import GoSem.ClaimMapViews
import Derived.JoinedTies
import Derived.KernelRfl
namespace Go.Proofs.Ytciolkmhafdlpaa
/- THE CELL 'sum', in the pinned program and in every row, IS THE sha256 OF THE DUMP (.gsa) THAT YtciolkmhafdlpaaProg.lean LOADS. Nothing in Lean hashes anything: it is a label: what it is worth is what the hold of that sum in a sandbox is worth. -/
noncomputable def Try.pinned : Pinned := { name := "ytciolkmhafdlpaa", sum := "93b7a263ccbbae182703d552a57a30d41fc5c8f62cae1c1348d0268c9fcab4e7", checked := Try.checked }
namespace Rows
def none {H : Type} : Left H := { results := [], args := [] }

/-- 'ferryhythelaw3.MaxminRoom': WHATEVER THE INPUT: true; the input reads as it did. -/
def maxminRoomSpec : ChangeSpec := { name := "maxminRoom", fn := fun _ => fun
  | [d1, d2] => { results := [.lit (.bool true)], args := [d1, d2] }
  | _ => none }
def maxminRoomRow : OpenClaim := { program := "ytciolkmhafdlpaa", sum := "93b7a263ccbbae182703d552a57a30d41fc5c8f62cae1c1348d0268c9fcab4e7", func := "ferryhythe/ferryhythelaw3.MaxminRoom", spec := "maxminRoom", unfollowed := true, recurses := true, apart := false }
def MaxminRoomSaid : Prop := maxminRoomRow.holds Try.pinned (OpenSpec.ofChange maxminRoomSpec)

/-- ITS FALSE NEIGHBOUR: 'it returns false'. Refute it at one input. -/
def maxminRoomWrong : ChangeSpec := { name := "maxminRoom", fn := fun _ => fun
  | [d1, d2] => { results := [.lit (.bool false)], args := [d1, d2] }
  | _ => none }
def MaxminRoomWrongFalsely : Prop := maxminRoomRow.holds Try.pinned (OpenSpec.ofChange maxminRoomWrong)

/-- 'ferryhythelaw3.MaxminNeck': WHATEVER THE INPUT: true; the input reads as it did. -/
def maxminNeckSpec : ChangeSpec := { name := "maxminNeck", fn := fun _ => fun
  | [d1, d2] => { results := [.lit (.bool true)], args := [d1, d2] }
  | _ => none }
def maxminNeckRow : OpenClaim := { program := "ytciolkmhafdlpaa", sum := "93b7a263ccbbae182703d552a57a30d41fc5c8f62cae1c1348d0268c9fcab4e7", func := "ferryhythe/ferryhythelaw3.MaxminNeck", spec := "maxminNeck", unfollowed := true, recurses := true, apart := false }
def MaxminNeckSaid : Prop := maxminNeckRow.holds Try.pinned (OpenSpec.ofChange maxminNeckSpec)

/-- ITS FALSE NEIGHBOUR: 'it returns false'. Refute it at one input. -/
def maxminNeckWrong : ChangeSpec := { name := "maxminNeck", fn := fun _ => fun
  | [d1, d2] => { results := [.lit (.bool false)], args := [d1, d2] }
  | _ => none }
def MaxminNeckWrongFalsely : Prop := maxminNeckRow.holds Try.pinned (OpenSpec.ofChange maxminNeckWrong)

/-- 'ferryhythelaw3.MaxminSame': WHATEVER THE INPUT: true; the input reads as it did. -/
def maxminSameSpec : ChangeSpec := { name := "maxminSame", fn := fun _ => fun
  | [d1, d2, d3, d4] => { results := [.lit (.bool true)], args := [d1, d2, d3, d4] }
  | _ => none }
def maxminSameRow : OpenClaim := { program := "ytciolkmhafdlpaa", sum := "93b7a263ccbbae182703d552a57a30d41fc5c8f62cae1c1348d0268c9fcab4e7", func := "ferryhythe/ferryhythelaw3.MaxminSame", spec := "maxminSame", unfollowed := true, recurses := true, apart := false }
def MaxminSameSaid : Prop := maxminSameRow.holds Try.pinned (OpenSpec.ofChange maxminSameSpec)

/-- ITS FALSE NEIGHBOUR: 'it returns false'. Refute it at one input. -/
def maxminSameWrong : ChangeSpec := { name := "maxminSame", fn := fun _ => fun
  | [d1, d2, d3, d4] => { results := [.lit (.bool false)], args := [d1, d2, d3, d4] }
  | _ => none }
def MaxminSameWrongFalsely : Prop := maxminSameRow.holds Try.pinned (OpenSpec.ofChange maxminSameWrong)

/-- 'ferryhythetop.TopShares': WHATEVER THE INPUT: true; the input reads as it did. -/
def topSharesSpec : ChangeSpec := { name := "topShares", fn := fun _ => fun
  | [d1, d2, d3] => { results := [.lit (.bool true)], args := [d1, d2, d3] }
  | _ => none }
def topSharesRow : OpenClaim := { program := "ytciolkmhafdlpaa", sum := "93b7a263ccbbae182703d552a57a30d41fc5c8f62cae1c1348d0268c9fcab4e7", func := "ferryhythe/ferryhythetop.TopShares", spec := "topShares", unfollowed := true, recurses := true, apart := false }
def TopSharesSaid : Prop := topSharesRow.holds Try.pinned (OpenSpec.ofChange topSharesSpec)

/-- ITS FALSE NEIGHBOUR: 'it returns false'. Refute it at one input. -/
def topSharesWrong : ChangeSpec := { name := "topShares", fn := fun _ => fun
  | [d1, d2, d3] => { results := [.lit (.bool false)], args := [d1, d2, d3] }
  | _ => none }
def TopSharesWrongFalsely : Prop := topSharesRow.holds Try.pinned (OpenSpec.ofChange topSharesWrong)

/-- 'ferryhythelaw3.SpfLoops': WHATEVER THE INPUT: true; the input reads as it did. -/
def spfLoopsSpec : ChangeSpec := { name := "spfLoops", fn := fun _ => fun
  | [d1, d2, d3, d4] => { results := [.lit (.bool true)], args := [d1, d2, d3, d4] }
  | _ => none }
def spfLoopsRow : OpenClaim := { program := "ytciolkmhafdlpaa", sum := "93b7a263ccbbae182703d552a57a30d41fc5c8f62cae1c1348d0268c9fcab4e7", func := "ferryhythe/ferryhythelaw3.SpfLoops", spec := "spfLoops", apart := false }
def SpfLoopsSaid : Prop := spfLoopsRow.holds Try.pinned (OpenSpec.ofChange spfLoopsSpec)

/-- ITS FALSE NEIGHBOUR: 'it returns false'. Refute it at one input. -/
def spfLoopsWrong : ChangeSpec := { name := "spfLoops", fn := fun _ => fun
  | [d1, d2, d3, d4] => { results := [.lit (.bool false)], args := [d1, d2, d3, d4] }
  | _ => none }
def SpfLoopsWrongFalsely : Prop := spfLoopsRow.holds Try.pinned (OpenSpec.ofChange spfLoopsWrong)

/-- 'ferryhythelaw3.SpfBest': WHATEVER THE INPUT: true; the input reads as it did. -/
def spfBestSpec : ChangeSpec := { name := "spfBest", fn := fun _ => fun
  | [d1, d2, d3, d4] => { results := [.lit (.bool true)], args := [d1, d2, d3, d4] }
  | _ => none }
def spfBestRow : OpenClaim := { program := "ytciolkmhafdlpaa", sum := "93b7a263ccbbae182703d552a57a30d41fc5c8f62cae1c1348d0268c9fcab4e7", func := "ferryhythe/ferryhythelaw3.SpfBest", spec := "spfBest", apart := false }
def SpfBestSaid : Prop := spfBestRow.holds Try.pinned (OpenSpec.ofChange spfBestSpec)

/-- ITS FALSE NEIGHBOUR: 'it returns false'. Refute it at one input. -/
def spfBestWrong : ChangeSpec := { name := "spfBest", fn := fun _ => fun
  | [d1, d2, d3, d4] => { results := [.lit (.bool false)], args := [d1, d2, d3, d4] }
  | _ => none }
def SpfBestWrongFalsely : Prop := spfBestRow.holds Try.pinned (OpenSpec.ofChange spfBestWrong)

/-- 'ferryhythelaw3.SpfLess': WHATEVER THE INPUT: true; the input reads as it did. -/
def spfLessSpec : ChangeSpec := { name := "spfLess", fn := fun _ => fun
  | [d1, d2, d3, d4] => { results := [.lit (.bool true)], args := [d1, d2, d3, d4] }
  | _ => none }
def spfLessRow : OpenClaim := { program := "ytciolkmhafdlpaa", sum := "93b7a263ccbbae182703d552a57a30d41fc5c8f62cae1c1348d0268c9fcab4e7", func := "ferryhythe/ferryhythelaw3.SpfLess", spec := "spfLess", apart := false }
def SpfLessSaid : Prop := spfLessRow.holds Try.pinned (OpenSpec.ofChange spfLessSpec)

/-- ITS FALSE NEIGHBOUR: 'it returns false'. Refute it at one input. -/
def spfLessWrong : ChangeSpec := { name := "spfLess", fn := fun _ => fun
  | [d1, d2, d3, d4] => { results := [.lit (.bool false)], args := [d1, d2, d3, d4] }
  | _ => none }
def SpfLessWrongFalsely : Prop := spfLessRow.holds Try.pinned (OpenSpec.ofChange spfLessWrong)

/-- 'ferryhythelaw3.SpfRound': WHATEVER THE INPUT: true; the input reads as it did. -/
def spfRoundSpec : ChangeSpec := { name := "spfRound", fn := fun _ => fun
  | [d1, d2, d3] => { results := [.lit (.bool true)], args := [d1, d2, d3] }
  | _ => none }
def spfRoundRow : OpenClaim := { program := "ytciolkmhafdlpaa", sum := "93b7a263ccbbae182703d552a57a30d41fc5c8f62cae1c1348d0268c9fcab4e7", func := "ferryhythe/ferryhythelaw3.SpfRound", spec := "spfRound", apart := false }
def SpfRoundSaid : Prop := spfRoundRow.holds Try.pinned (OpenSpec.ofChange spfRoundSpec)

/-- ITS FALSE NEIGHBOUR: 'it returns false'. Refute it at one input. -/
def spfRoundWrong : ChangeSpec := { name := "spfRound", fn := fun _ => fun
  | [d1, d2, d3] => { results := [.lit (.bool false)], args := [d1, d2, d3] }
  | _ => none }
def SpfRoundWrongFalsely : Prop := spfRoundRow.holds Try.pinned (OpenSpec.ofChange spfRoundWrong)

/- THE SECOND FORM. 'bulk': how many values and letters a reading holds, each counted each time it is reached (what is shared counts as often as it is met; a slice's spare places count too). A statement '..UptoSaid' is the law's where the arguments, and the package variables that the reading takes, are together of bulk at most 1048576: NARROWER than '..Said'. Prove '..Said' where nothing that the law and all that it calls make is longer than what came in: it says more and counts as full. Else prove '..UptoSaid'. A law counts once. -/
mutual
def uptoBulk {H : Type} : DataW H → Nat
  | .lit (.string bytes) => bytes.length + 1
  | .lit _ => 1
  | .nil => 1
  | .ptr d => uptoBulk d + 1
  | .slice elems spare => uptoBulkAll elems + uptoBulkAll spare + 1
  | .agg parts => uptoBulkAll parts + 1
  | .iface _ d => uptoBulk d + 1
  | .map entries => uptoBulkEntries entries + 1
  | .held _ => 1
def uptoBulkAll {H : Type} : List (DataW H) → Nat
  | [] => 0
  | d :: r => uptoBulk d + uptoBulkAll r
def uptoBulkEntries {H : Type} : List (Lit × DataW H) → Nat
  | [] => 0
  | x :: r => uptoBulkEntry x + uptoBulkEntries r
def uptoBulkEntry {H : Type} : Lit × DataW H → Nat
  | (.string bytes, d) => bytes.length + uptoBulk d + 1
  | (_, d) => uptoBulk d + 1
 end
def uptoSmall : (H : Type) → List (DataW H) → Bool := fun _ ds => decide (uptoBulkAll ds ≤ 1048576)
def OpenSpec.upto (s : _root_.Go.ChangeSpec) : _root_.Go.OpenSpec := { _root_.Go.OpenSpec.ofChange s with cond := some uptoSmall }

/-- 'ferryhythelaw3.MaxminRoom', WHERE WHAT IT READS IS OF BULK AT MOST 1048576: true; the input reads as it did. -/
def maxminRoomUptoRow : OpenClaim := { program := "ytciolkmhafdlpaa", sum := "93b7a263ccbbae182703d552a57a30d41fc5c8f62cae1c1348d0268c9fcab4e7", func := "ferryhythe/ferryhythelaw3.MaxminRoom", spec := "maxminRoom", unfollowed := true, recurses := true, apart := false, narrowed := true }
def MaxminRoomUptoSaid : Prop := maxminRoomUptoRow.holds Try.pinned (OpenSpec.upto maxminRoomSpec)

/-- 'ferryhythelaw3.MaxminNeck', WHERE WHAT IT READS IS OF BULK AT MOST 1048576: true; the input reads as it did. -/
def maxminNeckUptoRow : OpenClaim := { program := "ytciolkmhafdlpaa", sum := "93b7a263ccbbae182703d552a57a30d41fc5c8f62cae1c1348d0268c9fcab4e7", func := "ferryhythe/ferryhythelaw3.MaxminNeck", spec := "maxminNeck", unfollowed := true, recurses := true, apart := false, narrowed := true }
def MaxminNeckUptoSaid : Prop := maxminNeckUptoRow.holds Try.pinned (OpenSpec.upto maxminNeckSpec)

/-- 'ferryhythelaw3.MaxminSame', WHERE WHAT IT READS IS OF BULK AT MOST 1048576: true; the input reads as it did. -/
def maxminSameUptoRow : OpenClaim := { program := "ytciolkmhafdlpaa", sum := "93b7a263ccbbae182703d552a57a30d41fc5c8f62cae1c1348d0268c9fcab4e7", func := "ferryhythe/ferryhythelaw3.MaxminSame", spec := "maxminSame", unfollowed := true, recurses := true, apart := false, narrowed := true }
def MaxminSameUptoSaid : Prop := maxminSameUptoRow.holds Try.pinned (OpenSpec.upto maxminSameSpec)

/-- 'ferryhythetop.TopShares', WHERE WHAT IT READS IS OF BULK AT MOST 1048576: true; the input reads as it did. -/
def topSharesUptoRow : OpenClaim := { program := "ytciolkmhafdlpaa", sum := "93b7a263ccbbae182703d552a57a30d41fc5c8f62cae1c1348d0268c9fcab4e7", func := "ferryhythe/ferryhythetop.TopShares", spec := "topShares", unfollowed := true, recurses := true, apart := false, narrowed := true }
def TopSharesUptoSaid : Prop := topSharesUptoRow.holds Try.pinned (OpenSpec.upto topSharesSpec)

/-- 'ferryhythelaw3.SpfLoops', WHERE WHAT IT READS IS OF BULK AT MOST 1048576: true; the input reads as it did. -/
def spfLoopsUptoRow : OpenClaim := { program := "ytciolkmhafdlpaa", sum := "93b7a263ccbbae182703d552a57a30d41fc5c8f62cae1c1348d0268c9fcab4e7", func := "ferryhythe/ferryhythelaw3.SpfLoops", spec := "spfLoops", apart := false, narrowed := true }
def SpfLoopsUptoSaid : Prop := spfLoopsUptoRow.holds Try.pinned (OpenSpec.upto spfLoopsSpec)

/-- 'ferryhythelaw3.SpfBest', WHERE WHAT IT READS IS OF BULK AT MOST 1048576: true; the input reads as it did. -/
def spfBestUptoRow : OpenClaim := { program := "ytciolkmhafdlpaa", sum := "93b7a263ccbbae182703d552a57a30d41fc5c8f62cae1c1348d0268c9fcab4e7", func := "ferryhythe/ferryhythelaw3.SpfBest", spec := "spfBest", apart := false, narrowed := true }
def SpfBestUptoSaid : Prop := spfBestUptoRow.holds Try.pinned (OpenSpec.upto spfBestSpec)

/-- 'ferryhythelaw3.SpfLess', WHERE WHAT IT READS IS OF BULK AT MOST 1048576: true; the input reads as it did. -/
def spfLessUptoRow : OpenClaim := { program := "ytciolkmhafdlpaa", sum := "93b7a263ccbbae182703d552a57a30d41fc5c8f62cae1c1348d0268c9fcab4e7", func := "ferryhythe/ferryhythelaw3.SpfLess", spec := "spfLess", apart := false, narrowed := true }
def SpfLessUptoSaid : Prop := spfLessUptoRow.holds Try.pinned (OpenSpec.upto spfLessSpec)

/-- 'ferryhythelaw3.SpfRound', WHERE WHAT IT READS IS OF BULK AT MOST 1048576: true; the input reads as it did. -/
def spfRoundUptoRow : OpenClaim := { program := "ytciolkmhafdlpaa", sum := "93b7a263ccbbae182703d552a57a30d41fc5c8f62cae1c1348d0268c9fcab4e7", func := "ferryhythe/ferryhythelaw3.SpfRound", spec := "spfRound", apart := false, narrowed := true }
def SpfRoundUptoSaid : Prop := spfRoundUptoRow.holds Try.pinned (OpenSpec.upto spfRoundSpec)

end Rows
end Go.Proofs.Ytciolkmhafdlpaa
