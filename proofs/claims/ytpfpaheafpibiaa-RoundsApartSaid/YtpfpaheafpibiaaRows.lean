/-
  No cell of these rows narrows 'for every input' (looked for: loops, veiled, ifaces, maps, wideKeys, modest, calm, conditions, laid).
  DERIVED. THE GIVEN ROWS OF THIS SEAT. 3 by the template 'for every input the law returns true; each argument reads behind the call as it read before'; 0 by the template 'total and deterministic' (their statements: YtpfpaheafpibiaaTotals.lean).
  GIVEN WITH THE SEED: the statements are not yours to turn. If you find one false, say at which input.
  Laid BY PROGRAM, IN A SANDBOX (cutbox-rows.mjs): the forced cells as the released guide's own fill.sh prints them over the translation 2ff5d9d002bc0dd1… (all of the seat's roots in one cut). By AI agents, Wed Nov 11 2026. No macro, syntax, notation, axiom, sorry.
-/
import Derived.Test.YtpfpaheafpibiaaChecked
import GoSem.Claim
import GoSem.ClaimJoined
import GoSem.ClaimMapViews
import Derived.JoinedTies
import Derived.KernelRfl
namespace Go.Proofs.Ytpfpaheafpibiaa
/- THE CELL 'sum', in the pinned program and in every row, IS THE sha256 OF THE DUMP (.gsa) THAT YtpfpaheafpibiaaProg.lean LOADS. Nothing in Lean hashes anything: it is a label: what it is worth is what the hold of that sum in a sandbox is worth. -/
noncomputable def Try.pinned : Pinned := { name := "ytpfpaheafpibiaa", sum := "2ff5d9d002bc0dd1eef1bc2ff34dddf77263319b84ab230d6c0ce41872e0c542", checked := Try.checked }
namespace Rows
def none {H : Type} : Left H := { results := [], args := [] }

/-- 'ferryhythelaw3.RoundsSoon': WHATEVER THE INPUT: true; the input reads as it did. -/
def roundsSoonSpec : ChangeSpec := { name := "roundsSoon", fn := fun _ => fun
  | [d] => { results := [.lit (.bool true)], args := [d] }
  | _ => none }
def roundsSoonRow : OpenClaim := { program := "ytpfpaheafpibiaa", sum := "2ff5d9d002bc0dd1eef1bc2ff34dddf77263319b84ab230d6c0ce41872e0c542", func := "ferryhythe/ferryhythelaw3.RoundsSoon", spec := "roundsSoon", unfollowed := true, recurses := true, apart := false }
def RoundsSoonSaid : Prop := roundsSoonRow.holds Try.pinned (OpenSpec.ofChange roundsSoonSpec)

/-- ITS FALSE NEIGHBOUR: 'it returns false'. Refute it at one input. -/
def roundsSoonWrong : ChangeSpec := { name := "roundsSoon", fn := fun _ => fun
  | [d] => { results := [.lit (.bool false)], args := [d] }
  | _ => none }
def RoundsSoonWrongFalsely : Prop := roundsSoonRow.holds Try.pinned (OpenSpec.ofChange roundsSoonWrong)

/-- 'ferryhythelaw3.RoundsApart': WHATEVER THE INPUT: true; the input reads as it did. -/
def roundsApartSpec : ChangeSpec := { name := "roundsApart", fn := fun _ => fun
  | [d1, d2, d3] => { results := [.lit (.bool true)], args := [d1, d2, d3] }
  | _ => none }
def roundsApartRow : OpenClaim := { program := "ytpfpaheafpibiaa", sum := "2ff5d9d002bc0dd1eef1bc2ff34dddf77263319b84ab230d6c0ce41872e0c542", func := "ferryhythe/ferryhythelaw3.RoundsApart", spec := "roundsApart", unfollowed := true, recurses := true, apart := false }
def RoundsApartSaid : Prop := roundsApartRow.holds Try.pinned (OpenSpec.ofChange roundsApartSpec)

/-- ITS FALSE NEIGHBOUR: 'it returns false'. Refute it at one input. -/
def roundsApartWrong : ChangeSpec := { name := "roundsApart", fn := fun _ => fun
  | [d1, d2, d3] => { results := [.lit (.bool false)], args := [d1, d2, d3] }
  | _ => none }
def RoundsApartWrongFalsely : Prop := roundsApartRow.holds Try.pinned (OpenSpec.ofChange roundsApartWrong)

/-- 'ferryhythetop.TopQueues': WHATEVER THE INPUT: true; the input reads as it did. -/
def topQueuesSpec : ChangeSpec := { name := "topQueues", fn := fun _ => fun
  | [d1, d2] => { results := [.lit (.bool true)], args := [d1, d2] }
  | _ => none }
def topQueuesRow : OpenClaim := { program := "ytpfpaheafpibiaa", sum := "2ff5d9d002bc0dd1eef1bc2ff34dddf77263319b84ab230d6c0ce41872e0c542", func := "ferryhythe/ferryhythetop.TopQueues", spec := "topQueues", unfollowed := true, recurses := true, apart := false }
def TopQueuesSaid : Prop := topQueuesRow.holds Try.pinned (OpenSpec.ofChange topQueuesSpec)

/-- ITS FALSE NEIGHBOUR: 'it returns false'. Refute it at one input. -/
def topQueuesWrong : ChangeSpec := { name := "topQueues", fn := fun _ => fun
  | [d1, d2] => { results := [.lit (.bool false)], args := [d1, d2] }
  | _ => none }
def TopQueuesWrongFalsely : Prop := topQueuesRow.holds Try.pinned (OpenSpec.ofChange topQueuesWrong)

/- THE SECOND FORM. 'bulk': how many values and letters a reading holds, each counted each time it is reached (what is shared counts as often as it is met; a slice's spare places count too). A statement '..UptoSaid' is the law's where the arguments, and the package variables that the reading takes, are together of bulk at most 1048576: NARROWER than '..Said'. Prove '..Said' where nothing that the law and all that it calls make is longer than what came in: it says more and counts as full. Else prove '..UptoSaid'. A law counts once. -/
mutual
def uptoBulk {H : Type} : DataW H → Nat
  | .lit (.string bytes) => bytes.length + 1
  | .lit _ => 1
  | .nil => 1
  | .ptr d => uptoBulk d + 1
  | .slice elems spare => uptoBulkAll elems + uptoBulkAll spare + 1
  | .agg parts => uptoBulkAll parts + 1
  | .iface _ d => uptoBulk d + 1
  | .map entries => uptoBulkEntries entries + 1
  | .held _ => 1
def uptoBulkAll {H : Type} : List (DataW H) → Nat
  | [] => 0
  | d :: r => uptoBulk d + uptoBulkAll r
def uptoBulkEntries {H : Type} : List (Lit × DataW H) → Nat
  | [] => 0
  | x :: r => uptoBulkEntry x + uptoBulkEntries r
def uptoBulkEntry {H : Type} : Lit × DataW H → Nat
  | (.string bytes, d) => bytes.length + uptoBulk d + 1
  | (_, d) => uptoBulk d + 1
 end
def uptoSmall : (H : Type) → List (DataW H) → Bool := fun _ ds => decide (uptoBulkAll ds ≤ 1048576)
def OpenSpec.upto (s : _root_.Go.ChangeSpec) : _root_.Go.OpenSpec := { _root_.Go.OpenSpec.ofChange s with cond := some uptoSmall }

/-- 'ferryhythelaw3.RoundsSoon', WHERE WHAT IT READS IS OF BULK AT MOST 1048576: true; the input reads as it did. -/
def roundsSoonUptoRow : OpenClaim := { program := "ytpfpaheafpibiaa", sum := "2ff5d9d002bc0dd1eef1bc2ff34dddf77263319b84ab230d6c0ce41872e0c542", func := "ferryhythe/ferryhythelaw3.RoundsSoon", spec := "roundsSoon", unfollowed := true, recurses := true, apart := false, narrowed := true }
def RoundsSoonUptoSaid : Prop := roundsSoonUptoRow.holds Try.pinned (OpenSpec.upto roundsSoonSpec)

/-- 'ferryhythelaw3.RoundsApart', WHERE WHAT IT READS IS OF BULK AT MOST 1048576: true; the input reads as it did. -/
def roundsApartUptoRow : OpenClaim := { program := "ytpfpaheafpibiaa", sum := "2ff5d9d002bc0dd1eef1bc2ff34dddf77263319b84ab230d6c0ce41872e0c542", func := "ferryhythe/ferryhythelaw3.RoundsApart", spec := "roundsApart", unfollowed := true, recurses := true, apart := false, narrowed := true }
def RoundsApartUptoSaid : Prop := roundsApartUptoRow.holds Try.pinned (OpenSpec.upto roundsApartSpec)

/-- 'ferryhythetop.TopQueues', WHERE WHAT IT READS IS OF BULK AT MOST 1048576: true; the input reads as it did. -/
def topQueuesUptoRow : OpenClaim := { program := "ytpfpaheafpibiaa", sum := "2ff5d9d002bc0dd1eef1bc2ff34dddf77263319b84ab230d6c0ce41872e0c542", func := "ferryhythe/ferryhythetop.TopQueues", spec := "topQueues", unfollowed := true, recurses := true, apart := false, narrowed := true }
def TopQueuesUptoSaid : Prop := topQueuesUptoRow.holds Try.pinned (OpenSpec.upto topQueuesSpec)

end Rows
end Go.Proofs.Ytpfpaheafpibiaa
