/-
  No cell of these rows narrows 'for every input' (looked for: loops, veiled, ifaces, maps, wideKeys, modest, calm, conditions, laid).
  DERIVED. THE GIVEN ROWS OF THIS SEAT. 7 by the template 'for every input the law returns true; each argument reads behind the call as it read before'; 0 by the template 'total and deterministic' (their statements: YthnlpmjfibidcaaTotals.lean).
  GIVEN WITH THE SEED: the statements are not yours to turn. If you find one false, say at which input.
  Laid BY PROGRAM, IN A SANDBOX (cutbox-rows.mjs): the forced cells as the released guide's own fill.sh prints them over the translation bd4a9f8cba8a68ac… (all of the seat's roots in one cut). By AI agents, Wed Nov 11 2026. No macro, syntax, notation, axiom, sorry.
-/
import Derived.Test.YthnlpmjfibidcaaChecked
import GoSem.Claim
import GoSem.ClaimJoined
import GoSem.ClaimMapViews
import Derived.JoinedTies
import Derived.KernelRfl
namespace Go.Proofs.Ythnlpmjfibidcaa
/- THE CELL 'sum', in the pinned program and in every row, IS THE sha256 OF THE DUMP (.gsa) THAT YthnlpmjfibidcaaProg.lean LOADS. Nothing in Lean hashes anything: it is a label: what it is worth is what the hold of that sum in a sandbox is worth. -/
noncomputable def Try.pinned : Pinned := { name := "ythnlpmjfibidcaa", sum := "bd4a9f8cba8a68acd334c1eedc477e3df5b6210da9e035816791a53eb816fa37", checked := Try.checked }
namespace Rows
def none {H : Type} : Left H := { results := [], args := [] }

/-- 'ferryhythelaw4.MuxApart': WHATEVER THE INPUT: true; the input reads as it did. -/
def muxApartSpec : ChangeSpec := { name := "muxApart", fn := fun _ => fun
  | [d1, d2, d3] => { results := [.lit (.bool true)], args := [d1, d2, d3] }
  | _ => none }
def muxApartRow : OpenClaim := { program := "ythnlpmjfibidcaa", sum := "bd4a9f8cba8a68acd334c1eedc477e3df5b6210da9e035816791a53eb816fa37", func := "ferryhythe/ferryhythelaw4.MuxApart", spec := "muxApart", apart := false }
def MuxApartSaid : Prop := muxApartRow.holds Try.pinned (OpenSpec.ofChange muxApartSpec)

/-- ITS FALSE NEIGHBOUR: 'it returns false'. Refute it at one input. -/
def muxApartWrong : ChangeSpec := { name := "muxApart", fn := fun _ => fun
  | [d1, d2, d3] => { results := [.lit (.bool false)], args := [d1, d2, d3] }
  | _ => none }
def MuxApartWrongFalsely : Prop := muxApartRow.holds Try.pinned (OpenSpec.ofChange muxApartWrong)

/-- 'ferryhythelaw4.MuxWhole': WHATEVER THE INPUT: true; the input reads as it did. -/
def muxWholeSpec : ChangeSpec := { name := "muxWhole", fn := fun _ => fun
  | [d1, d2, d3, d4] => { results := [.lit (.bool true)], args := [d1, d2, d3, d4] }
  | _ => none }
def muxWholeRow : OpenClaim := { program := "ythnlpmjfibidcaa", sum := "bd4a9f8cba8a68acd334c1eedc477e3df5b6210da9e035816791a53eb816fa37", func := "ferryhythe/ferryhythelaw4.MuxWhole", spec := "muxWhole", apart := false }
def MuxWholeSaid : Prop := muxWholeRow.holds Try.pinned (OpenSpec.ofChange muxWholeSpec)

/-- ITS FALSE NEIGHBOUR: 'it returns false'. Refute it at one input. -/
def muxWholeWrong : ChangeSpec := { name := "muxWhole", fn := fun _ => fun
  | [d1, d2, d3, d4] => { results := [.lit (.bool false)], args := [d1, d2, d3, d4] }
  | _ => none }
def MuxWholeWrongFalsely : Prop := muxWholeRow.holds Try.pinned (OpenSpec.ofChange muxWholeWrong)

/-- 'ferryhythelaw4.MuxTwice': WHATEVER THE INPUT: true; the input reads as it did. -/
def muxTwiceSpec : ChangeSpec := { name := "muxTwice", fn := fun _ => fun
  | [d1, d2] => { results := [.lit (.bool true)], args := [d1, d2] }
  | _ => none }
def muxTwiceRow : OpenClaim := { program := "ythnlpmjfibidcaa", sum := "bd4a9f8cba8a68acd334c1eedc477e3df5b6210da9e035816791a53eb816fa37", func := "ferryhythe/ferryhythelaw4.MuxTwice", spec := "muxTwice", apart := false }
def MuxTwiceSaid : Prop := muxTwiceRow.holds Try.pinned (OpenSpec.ofChange muxTwiceSpec)

/-- ITS FALSE NEIGHBOUR: 'it returns false'. Refute it at one input. -/
def muxTwiceWrong : ChangeSpec := { name := "muxTwice", fn := fun _ => fun
  | [d1, d2] => { results := [.lit (.bool false)], args := [d1, d2] }
  | _ => none }
def MuxTwiceWrongFalsely : Prop := muxTwiceRow.holds Try.pinned (OpenSpec.ofChange muxTwiceWrong)

/-- 'ferryhythelaw4.RetryAlone': WHATEVER THE INPUT: true; the input reads as it did. -/
def retryAloneSpec : ChangeSpec := { name := "retryAlone", fn := fun _ => fun
  | [d1, d2] => { results := [.lit (.bool true)], args := [d1, d2] }
  | _ => none }
def retryAloneRow : OpenClaim := { program := "ythnlpmjfibidcaa", sum := "bd4a9f8cba8a68acd334c1eedc477e3df5b6210da9e035816791a53eb816fa37", func := "ferryhythe/ferryhythelaw4.RetryAlone", spec := "retryAlone", apart := false }
def RetryAloneSaid : Prop := retryAloneRow.holds Try.pinned (OpenSpec.ofChange retryAloneSpec)

/-- ITS FALSE NEIGHBOUR: 'it returns false'. Refute it at one input. -/
def retryAloneWrong : ChangeSpec := { name := "retryAlone", fn := fun _ => fun
  | [d1, d2] => { results := [.lit (.bool false)], args := [d1, d2] }
  | _ => none }
def RetryAloneWrongFalsely : Prop := retryAloneRow.holds Try.pinned (OpenSpec.ofChange retryAloneWrong)

/-- 'ferryhythelaw4.RetryWindow': WHATEVER THE INPUT: true; the input reads as it did. -/
def retryWindowSpec : ChangeSpec := { name := "retryWindow", fn := fun _ => fun
  | [d] => { results := [.lit (.bool true)], args := [d] }
  | _ => none }
def retryWindowRow : OpenClaim := { program := "ythnlpmjfibidcaa", sum := "bd4a9f8cba8a68acd334c1eedc477e3df5b6210da9e035816791a53eb816fa37", func := "ferryhythe/ferryhythelaw4.RetryWindow", spec := "retryWindow", apart := false }
def RetryWindowSaid : Prop := retryWindowRow.holds Try.pinned (OpenSpec.ofChange retryWindowSpec)

/-- ITS FALSE NEIGHBOUR: 'it returns false'. Refute it at one input. -/
def retryWindowWrong : ChangeSpec := { name := "retryWindow", fn := fun _ => fun
  | [d] => { results := [.lit (.bool false)], args := [d] }
  | _ => none }
def RetryWindowWrongFalsely : Prop := retryWindowRow.holds Try.pinned (OpenSpec.ofChange retryWindowWrong)

/-- 'ferryhythelaw4.RetryBegins': WHATEVER THE INPUT: true; the input reads as it did. -/
def retryBeginsSpec : ChangeSpec := { name := "retryBegins", fn := fun _ => fun
  | [d1, d2, d3] => { results := [.lit (.bool true)], args := [d1, d2, d3] }
  | _ => none }
def retryBeginsRow : OpenClaim := { program := "ythnlpmjfibidcaa", sum := "bd4a9f8cba8a68acd334c1eedc477e3df5b6210da9e035816791a53eb816fa37", func := "ferryhythe/ferryhythelaw4.RetryBegins", spec := "retryBegins", apart := false }
def RetryBeginsSaid : Prop := retryBeginsRow.holds Try.pinned (OpenSpec.ofChange retryBeginsSpec)

/-- ITS FALSE NEIGHBOUR: 'it returns false'. Refute it at one input. -/
def retryBeginsWrong : ChangeSpec := { name := "retryBegins", fn := fun _ => fun
  | [d1, d2, d3] => { results := [.lit (.bool false)], args := [d1, d2, d3] }
  | _ => none }
def RetryBeginsWrongFalsely : Prop := retryBeginsRow.holds Try.pinned (OpenSpec.ofChange retryBeginsWrong)

/-- 'ferryhythelaw4.RetryTwo': WHATEVER THE INPUT: true; the input reads as it did. -/
def retryTwoSpec : ChangeSpec := { name := "retryTwo", fn := fun _ => fun
  | [d1, d2] => { results := [.lit (.bool true)], args := [d1, d2] }
  | _ => none }
def retryTwoRow : OpenClaim := { program := "ythnlpmjfibidcaa", sum := "bd4a9f8cba8a68acd334c1eedc477e3df5b6210da9e035816791a53eb816fa37", func := "ferryhythe/ferryhythelaw4.RetryTwo", spec := "retryTwo", apart := false }
def RetryTwoSaid : Prop := retryTwoRow.holds Try.pinned (OpenSpec.ofChange retryTwoSpec)

/-- ITS FALSE NEIGHBOUR: 'it returns false'. Refute it at one input. -/
def retryTwoWrong : ChangeSpec := { name := "retryTwo", fn := fun _ => fun
  | [d1, d2] => { results := [.lit (.bool false)], args := [d1, d2] }
  | _ => none }
def RetryTwoWrongFalsely : Prop := retryTwoRow.holds Try.pinned (OpenSpec.ofChange retryTwoWrong)

/- THE SECOND FORM. 'bulk': how many values and letters a reading holds, each counted each time it is reached (what is shared counts as often as it is met; a slice's spare places count too). A statement '..UptoSaid' is the law's where the arguments, and the package variables that the reading takes, are together of bulk at most 1048576: NARROWER than '..Said'. Prove '..Said' where nothing that the law and all that it calls make is longer than what came in: it says more and counts as full. Else prove '..UptoSaid'. A law counts once. -/
mutual
def uptoBulk {H : Type} : DataW H → Nat
  | .lit (.string bytes) => bytes.length + 1
  | .lit _ => 1
  | .nil => 1
  | .ptr d => uptoBulk d + 1
  | .slice elems spare => uptoBulkAll elems + uptoBulkAll spare + 1
  | .agg parts => uptoBulkAll parts + 1
  | .iface _ d => uptoBulk d + 1
  | .map entries => uptoBulkEntries entries + 1
  | .held _ => 1
def uptoBulkAll {H : Type} : List (DataW H) → Nat
  | [] => 0
  | d :: r => uptoBulk d + uptoBulkAll r
def uptoBulkEntries {H : Type} : List (Lit × DataW H) → Nat
  | [] => 0
  | x :: r => uptoBulkEntry x + uptoBulkEntries r
def uptoBulkEntry {H : Type} : Lit × DataW H → Nat
  | (.string bytes, d) => bytes.length + uptoBulk d + 1
  | (_, d) => uptoBulk d + 1
 end
def uptoSmall : (H : Type) → List (DataW H) → Bool := fun _ ds => decide (uptoBulkAll ds ≤ 1048576)
def OpenSpec.upto (s : _root_.Go.ChangeSpec) : _root_.Go.OpenSpec := { _root_.Go.OpenSpec.ofChange s with cond := some uptoSmall }

/-- 'ferryhythelaw4.MuxApart', WHERE WHAT IT READS IS OF BULK AT MOST 1048576: true; the input reads as it did. -/
def muxApartUptoRow : OpenClaim := { program := "ythnlpmjfibidcaa", sum := "bd4a9f8cba8a68acd334c1eedc477e3df5b6210da9e035816791a53eb816fa37", func := "ferryhythe/ferryhythelaw4.MuxApart", spec := "muxApart", apart := false, narrowed := true }
def MuxApartUptoSaid : Prop := muxApartUptoRow.holds Try.pinned (OpenSpec.upto muxApartSpec)

/-- 'ferryhythelaw4.MuxWhole', WHERE WHAT IT READS IS OF BULK AT MOST 1048576: true; the input reads as it did. -/
def muxWholeUptoRow : OpenClaim := { program := "ythnlpmjfibidcaa", sum := "bd4a9f8cba8a68acd334c1eedc477e3df5b6210da9e035816791a53eb816fa37", func := "ferryhythe/ferryhythelaw4.MuxWhole", spec := "muxWhole", apart := false, narrowed := true }
def MuxWholeUptoSaid : Prop := muxWholeUptoRow.holds Try.pinned (OpenSpec.upto muxWholeSpec)

/-- 'ferryhythelaw4.MuxTwice', WHERE WHAT IT READS IS OF BULK AT MOST 1048576: true; the input reads as it did. -/
def muxTwiceUptoRow : OpenClaim := { program := "ythnlpmjfibidcaa", sum := "bd4a9f8cba8a68acd334c1eedc477e3df5b6210da9e035816791a53eb816fa37", func := "ferryhythe/ferryhythelaw4.MuxTwice", spec := "muxTwice", apart := false, narrowed := true }
def MuxTwiceUptoSaid : Prop := muxTwiceUptoRow.holds Try.pinned (OpenSpec.upto muxTwiceSpec)

/-- 'ferryhythelaw4.RetryAlone', WHERE WHAT IT READS IS OF BULK AT MOST 1048576: true; the input reads as it did. -/
def retryAloneUptoRow : OpenClaim := { program := "ythnlpmjfibidcaa", sum := "bd4a9f8cba8a68acd334c1eedc477e3df5b6210da9e035816791a53eb816fa37", func := "ferryhythe/ferryhythelaw4.RetryAlone", spec := "retryAlone", apart := false, narrowed := true }
def RetryAloneUptoSaid : Prop := retryAloneUptoRow.holds Try.pinned (OpenSpec.upto retryAloneSpec)

/-- 'ferryhythelaw4.RetryWindow', WHERE WHAT IT READS IS OF BULK AT MOST 1048576: true; the input reads as it did. -/
def retryWindowUptoRow : OpenClaim := { program := "ythnlpmjfibidcaa", sum := "bd4a9f8cba8a68acd334c1eedc477e3df5b6210da9e035816791a53eb816fa37", func := "ferryhythe/ferryhythelaw4.RetryWindow", spec := "retryWindow", apart := false, narrowed := true }
def RetryWindowUptoSaid : Prop := retryWindowUptoRow.holds Try.pinned (OpenSpec.upto retryWindowSpec)

/-- 'ferryhythelaw4.RetryBegins', WHERE WHAT IT READS IS OF BULK AT MOST 1048576: true; the input reads as it did. -/
def retryBeginsUptoRow : OpenClaim := { program := "ythnlpmjfibidcaa", sum := "bd4a9f8cba8a68acd334c1eedc477e3df5b6210da9e035816791a53eb816fa37", func := "ferryhythe/ferryhythelaw4.RetryBegins", spec := "retryBegins", apart := false, narrowed := true }
def RetryBeginsUptoSaid : Prop := retryBeginsUptoRow.holds Try.pinned (OpenSpec.upto retryBeginsSpec)

/-- 'ferryhythelaw4.RetryTwo', WHERE WHAT IT READS IS OF BULK AT MOST 1048576: true; the input reads as it did. -/
def retryTwoUptoRow : OpenClaim := { program := "ythnlpmjfibidcaa", sum := "bd4a9f8cba8a68acd334c1eedc477e3df5b6210da9e035816791a53eb816fa37", func := "ferryhythe/ferryhythelaw4.RetryTwo", spec := "retryTwo", apart := false, narrowed := true }
def RetryTwoUptoSaid : Prop := retryTwoUptoRow.holds Try.pinned (OpenSpec.upto retryTwoSpec)

end Rows
end Go.Proofs.Ythnlpmjfibidcaa
