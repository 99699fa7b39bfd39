/-
  NARROWER THAN 'FOR EVERY INPUT', by the rows' own cells (each row's printed sentence says how): MuxClash: laid · MuxPlays: laid · RetrySays: laid.
  DERIVED. THE GIVEN ROWS OF THIS SEAT. 3 by the template 'for every input the law returns true; each argument reads behind the call as it read before'; 0 by the template 'total and deterministic' (their statements: YthnlpmjfibidcaaDoorTotals.lean).
  GIVEN WITH THE SEED: the statements are not yours to turn. If you find one false, say at which input.
  Laid BY PROGRAM, IN A SANDBOX (cutbox-rows.mjs): the forced cells as the released guide's own fill.sh prints them over the translation 5c5c1892ffc5fbd7… (all of the seat's roots in one cut). By AI agents, Wed Nov 11 2026. No macro, syntax, notation, axiom, sorry.
-/
import Derived.Test.YthnlpmjfibidcaaDoorChecked
import GoSem.Claim
import GoSem.ClaimJoined
import GoSem.ClaimMapViews
import Derived.JoinedTies
import Derived.KernelRfl
namespace Go.Proofs.YthnlpmjfibidcaaDoor
/- THE CELL 'sum', in the pinned program and in every row, IS THE sha256 OF THE DUMP (.gsa) THAT YthnlpmjfibidcaaDoorProg.lean LOADS. Nothing in Lean hashes anything: it is a label: what it is worth is what the hold of that sum in a sandbox is worth. -/
noncomputable def Tryd.pinned : Pinned := { name := "ythnlpmjfibidcaadoor", sum := "5c5c1892ffc5fbd7da056beb64da7dc2d46ba137da10c26d468249b5634f60d9", checked := Tryd.checked }
namespace Rows
def none {H : Type} : Left H := { results := [], args := [] }

/- WHAT THE LISTED PACKAGE-LEVEL VARIABLES READ AS WHEN THE CALL BEGINS. Each datum BY PROGRAM (the guide's laid-datum.mjs) off the statement by which the dump's own 'gosem.cut.vars' lays the variable. In a bare row this is a premise. The card (YthnlpmjfibidcaaDoorCards.lean) ties it to the program's text. -/
def laid_errors_errorType {H : Type} : DataW H := .iface "internal/reflectlite.rtype" (.agg [.ptr (.lit (.string [101, 114, 114, 111, 114]))])

/-- 'ferryhythelaw4.MuxClash': WHATEVER THE INPUT: true; the input reads as it did. -/
def muxClashSpec : ChangeSpec := { name := "muxClash", fn := fun _ => fun
  | [d1, d2, d3, d4] => { results := [.lit (.bool true)], args := [d1, d2, d3, d4] }
  | _ => none }
def muxClashRow : OpenClaim := { program := "ythnlpmjfibidcaadoor", sum := "5c5c1892ffc5fbd7da056beb64da7dc2d46ba137da10c26d468249b5634f60d9", func := "ferryhythe/ferryhythelaw4.MuxClash", spec := "muxClash", inPlace := ["internal/reflectlite.ValueOf", "(internal/reflectlite.Value).Type", "(internal/reflectlite.Value).IsNil", "internal/reflectlite.TypeOf", "(internal/reflectlite.Value).Elem", "(internal/reflectlite.Value).Set"], unfollowed := true, recurses := true, named := ["errors.errorType"], apart := false, laid := [("errors.errorType", laid_errors_errorType)] }
def MuxClashSaid : Prop := muxClashRow.holds Tryd.pinned (OpenSpec.ofChange muxClashSpec)

/-- ITS FALSE NEIGHBOUR: 'it returns false'. Refute it at one input. -/
def muxClashWrong : ChangeSpec := { name := "muxClash", fn := fun _ => fun
  | [d1, d2, d3, d4] => { results := [.lit (.bool false)], args := [d1, d2, d3, d4] }
  | _ => none }
def MuxClashWrongFalsely : Prop := muxClashRow.holds Tryd.pinned (OpenSpec.ofChange muxClashWrong)

/-- 'ferryhythelaw4.MuxPlays': WHATEVER THE INPUT: true; the input reads as it did. -/
def muxPlaysSpec : ChangeSpec := { name := "muxPlays", fn := fun _ => fun
  | [d1, d2] => { results := [.lit (.bool true)], args := [d1, d2] }
  | _ => none }
def muxPlaysRow : OpenClaim := { program := "ythnlpmjfibidcaadoor", sum := "5c5c1892ffc5fbd7da056beb64da7dc2d46ba137da10c26d468249b5634f60d9", func := "ferryhythe/ferryhythelaw4.MuxPlays", spec := "muxPlays", inPlace := ["internal/reflectlite.ValueOf", "(internal/reflectlite.Value).Type", "(internal/reflectlite.Value).IsNil", "internal/reflectlite.TypeOf", "(internal/reflectlite.Value).Elem", "(internal/reflectlite.Value).Set"], unfollowed := true, recurses := true, named := ["errors.errorType"], apart := false, laid := [("errors.errorType", laid_errors_errorType)] }
def MuxPlaysSaid : Prop := muxPlaysRow.holds Tryd.pinned (OpenSpec.ofChange muxPlaysSpec)

/-- ITS FALSE NEIGHBOUR: 'it returns false'. Refute it at one input. -/
def muxPlaysWrong : ChangeSpec := { name := "muxPlays", fn := fun _ => fun
  | [d1, d2] => { results := [.lit (.bool false)], args := [d1, d2] }
  | _ => none }
def MuxPlaysWrongFalsely : Prop := muxPlaysRow.holds Tryd.pinned (OpenSpec.ofChange muxPlaysWrong)

/-- 'ferryhythelaw4.RetrySays': WHATEVER THE INPUT: true; the input reads as it did. -/
def retrySaysSpec : ChangeSpec := { name := "retrySays", fn := fun _ => fun
  | [d1, d2, d3] => { results := [.lit (.bool true)], args := [d1, d2, d3] }
  | _ => none }
def retrySaysRow : OpenClaim := { program := "ythnlpmjfibidcaadoor", sum := "5c5c1892ffc5fbd7da056beb64da7dc2d46ba137da10c26d468249b5634f60d9", func := "ferryhythe/ferryhythelaw4.RetrySays", spec := "retrySays", inPlace := ["internal/reflectlite.ValueOf", "(internal/reflectlite.Value).Type", "(internal/reflectlite.Value).IsNil", "internal/reflectlite.TypeOf", "(internal/reflectlite.Value).Elem", "(internal/reflectlite.Value).Set"], unfollowed := true, recurses := true, named := ["errors.errorType"], apart := false, laid := [("errors.errorType", laid_errors_errorType)] }
def RetrySaysSaid : Prop := retrySaysRow.holds Tryd.pinned (OpenSpec.ofChange retrySaysSpec)

/-- ITS FALSE NEIGHBOUR: 'it returns false'. Refute it at one input. -/
def retrySaysWrong : ChangeSpec := { name := "retrySays", fn := fun _ => fun
  | [d1, d2, d3] => { results := [.lit (.bool false)], args := [d1, d2, d3] }
  | _ => none }
def RetrySaysWrongFalsely : Prop := retrySaysRow.holds Tryd.pinned (OpenSpec.ofChange retrySaysWrong)

/- THE SECOND FORM. 'bulk': how many values and letters a reading holds, each counted each time it is reached (what is shared counts as often as it is met; a slice's spare places count too). A statement '..UptoSaid' is the law's where the arguments, and the package variables that the reading takes, are together of bulk at most 1048576: NARROWER than '..Said'. Prove '..Said' where nothing that the law and all that it calls make is longer than what came in: it says more and counts as full. Else prove '..UptoSaid'. A law counts once. -/
mutual
def uptoBulk {H : Type} : DataW H → Nat
  | .lit (.string bytes) => bytes.length + 1
  | .lit _ => 1
  | .nil => 1
  | .ptr d => uptoBulk d + 1
  | .slice elems spare => uptoBulkAll elems + uptoBulkAll spare + 1
  | .agg parts => uptoBulkAll parts + 1
  | .iface _ d => uptoBulk d + 1
  | .map entries => uptoBulkEntries entries + 1
  | .held _ => 1
def uptoBulkAll {H : Type} : List (DataW H) → Nat
  | [] => 0
  | d :: r => uptoBulk d + uptoBulkAll r
def uptoBulkEntries {H : Type} : List (Lit × DataW H) → Nat
  | [] => 0
  | x :: r => uptoBulkEntry x + uptoBulkEntries r
def uptoBulkEntry {H : Type} : Lit × DataW H → Nat
  | (.string bytes, d) => bytes.length + uptoBulk d + 1
  | (_, d) => uptoBulk d + 1
 end
def uptoSmall : (H : Type) → List (DataW H) → Bool := fun _ ds => decide (uptoBulkAll ds ≤ 1048576)
def OpenSpec.upto (s : _root_.Go.ChangeSpec) : _root_.Go.OpenSpec := { _root_.Go.OpenSpec.ofChange s with cond := some uptoSmall }

/-- 'ferryhythelaw4.MuxClash', WHERE WHAT IT READS IS OF BULK AT MOST 1048576: true; the input reads as it did. -/
def muxClashUptoRow : OpenClaim := { program := "ythnlpmjfibidcaadoor", sum := "5c5c1892ffc5fbd7da056beb64da7dc2d46ba137da10c26d468249b5634f60d9", func := "ferryhythe/ferryhythelaw4.MuxClash", spec := "muxClash", inPlace := ["internal/reflectlite.ValueOf", "(internal/reflectlite.Value).Type", "(internal/reflectlite.Value).IsNil", "internal/reflectlite.TypeOf", "(internal/reflectlite.Value).Elem", "(internal/reflectlite.Value).Set"], unfollowed := true, recurses := true, named := ["errors.errorType"], apart := false, laid := [("errors.errorType", laid_errors_errorType)], narrowed := true }
def MuxClashUptoSaid : Prop := muxClashUptoRow.holds Tryd.pinned (OpenSpec.upto muxClashSpec)

/-- 'ferryhythelaw4.MuxPlays', WHERE WHAT IT READS IS OF BULK AT MOST 1048576: true; the input reads as it did. -/
def muxPlaysUptoRow : OpenClaim := { program := "ythnlpmjfibidcaadoor", sum := "5c5c1892ffc5fbd7da056beb64da7dc2d46ba137da10c26d468249b5634f60d9", func := "ferryhythe/ferryhythelaw4.MuxPlays", spec := "muxPlays", inPlace := ["internal/reflectlite.ValueOf", "(internal/reflectlite.Value).Type", "(internal/reflectlite.Value).IsNil", "internal/reflectlite.TypeOf", "(internal/reflectlite.Value).Elem", "(internal/reflectlite.Value).Set"], unfollowed := true, recurses := true, named := ["errors.errorType"], apart := false, laid := [("errors.errorType", laid_errors_errorType)], narrowed := true }
def MuxPlaysUptoSaid : Prop := muxPlaysUptoRow.holds Tryd.pinned (OpenSpec.upto muxPlaysSpec)

/-- 'ferryhythelaw4.RetrySays', WHERE WHAT IT READS IS OF BULK AT MOST 1048576: true; the input reads as it did. -/
def retrySaysUptoRow : OpenClaim := { program := "ythnlpmjfibidcaadoor", sum := "5c5c1892ffc5fbd7da056beb64da7dc2d46ba137da10c26d468249b5634f60d9", func := "ferryhythe/ferryhythelaw4.RetrySays", spec := "retrySays", inPlace := ["internal/reflectlite.ValueOf", "(internal/reflectlite.Value).Type", "(internal/reflectlite.Value).IsNil", "internal/reflectlite.TypeOf", "(internal/reflectlite.Value).Elem", "(internal/reflectlite.Value).Set"], unfollowed := true, recurses := true, named := ["errors.errorType"], apart := false, laid := [("errors.errorType", laid_errors_errorType)], narrowed := true }
def RetrySaysUptoSaid : Prop := retrySaysUptoRow.holds Tryd.pinned (OpenSpec.upto retrySaysSpec)

end Rows
end Go.Proofs.YthnlpmjfibidcaaDoor
