/-
  NARROWER THAN 'FOR EVERY INPUT', by the rows' own cells (each row's printed sentence says how): LearnForgets: laid · LearnPlays: laid · DrrSays: laid · RingSays: laid.
  DERIVED. THE GIVEN ROWS OF THIS SEAT. 4 by the template 'for every input the law returns true; each argument reads behind the call as it read before'; 0 by the template 'total and deterministic' (their statements: YtommedhaaojgiaaDoorTotals.lean).
  GIVEN WITH THE SEED: the statements are not yours to turn. If you find one false, say at which input.
  Laid BY PROGRAM, IN A SANDBOX (cutbox-rows.mjs): the forced cells as the released guide's own fill.sh prints them over the translation b72a79bd0af9f908… (all of the seat's roots in one cut). By AI agents, Wed Nov 11 2026. No macro, syntax, notation, axiom, sorry.
-/
import Derived.Test.YtommedhaaojgiaaDoorChecked
import GoSem.Claim
import GoSem.ClaimJoined
import GoSem.ClaimMapViews
import Derived.JoinedTies
import Derived.KernelRfl
namespace Go.Proofs.YtommedhaaojgiaaDoor
/- THE CELL 'sum', in the pinned program and in every row, IS THE sha256 OF THE DUMP (.gsa) THAT YtommedhaaojgiaaDoorProg.lean LOADS. Nothing in Lean hashes anything: it is a label: what it is worth is what the hold of that sum in a sandbox is worth. -/
noncomputable def Tryd.pinned : Pinned := { name := "ytommedhaaojgiaadoor", sum := "b72a79bd0af9f908e33bbba0d47852b55e223a4285b6304be050242187dbaca6", checked := Tryd.checked }
namespace Rows
def none {H : Type} : Left H := { results := [], args := [] }

/- WHAT THE LISTED PACKAGE-LEVEL VARIABLES READ AS WHEN THE CALL BEGINS. Each datum BY PROGRAM (the guide's laid-datum.mjs) off the statement by which the dump's own 'gosem.cut.vars' lays the variable. In a bare row this is a premise. The card (YtommedhaaojgiaaDoorCards.lean) ties it to the program's text. -/
def laid_errors_errorType {H : Type} : DataW H := .iface "internal/reflectlite.rtype" (.agg [.ptr (.lit (.string [101, 114, 114, 111, 114]))])

/-- 'ferryhythelaw3.LearnForgets': WHATEVER THE INPUT: true; the input reads as it did. -/
def learnForgetsSpec : ChangeSpec := { name := "learnForgets", fn := fun _ => fun
  | [d1, d2, d3] => { results := [.lit (.bool true)], args := [d1, d2, d3] }
  | _ => none }
def learnForgetsRow : OpenClaim := { program := "ytommedhaaojgiaadoor", sum := "b72a79bd0af9f908e33bbba0d47852b55e223a4285b6304be050242187dbaca6", func := "ferryhythe/ferryhythelaw3.LearnForgets", spec := "learnForgets", inPlace := ["internal/reflectlite.ValueOf", "(internal/reflectlite.Value).Type", "(internal/reflectlite.Value).IsNil", "internal/reflectlite.TypeOf", "(internal/reflectlite.Value).Elem", "(internal/reflectlite.Value).Set"], unfollowed := true, recurses := true, named := ["errors.errorType"], apart := false, laid := [("errors.errorType", laid_errors_errorType)] }
def LearnForgetsSaid : Prop := learnForgetsRow.holds Tryd.pinned (OpenSpec.ofChange learnForgetsSpec)

/-- ITS FALSE NEIGHBOUR: 'it returns false'. Refute it at one input. -/
def learnForgetsWrong : ChangeSpec := { name := "learnForgets", fn := fun _ => fun
  | [d1, d2, d3] => { results := [.lit (.bool false)], args := [d1, d2, d3] }
  | _ => none }
def LearnForgetsWrongFalsely : Prop := learnForgetsRow.holds Tryd.pinned (OpenSpec.ofChange learnForgetsWrong)

/-- 'ferryhythelaw3.LearnPlays': WHATEVER THE INPUT: true; the input reads as it did. -/
def learnPlaysSpec : ChangeSpec := { name := "learnPlays", fn := fun _ => fun
  | [d] => { results := [.lit (.bool true)], args := [d] }
  | _ => none }
def learnPlaysRow : OpenClaim := { program := "ytommedhaaojgiaadoor", sum := "b72a79bd0af9f908e33bbba0d47852b55e223a4285b6304be050242187dbaca6", func := "ferryhythe/ferryhythelaw3.LearnPlays", spec := "learnPlays", inPlace := ["internal/reflectlite.ValueOf", "(internal/reflectlite.Value).Type", "(internal/reflectlite.Value).IsNil", "internal/reflectlite.TypeOf", "(internal/reflectlite.Value).Elem", "(internal/reflectlite.Value).Set"], unfollowed := true, recurses := true, named := ["errors.errorType"], apart := false, laid := [("errors.errorType", laid_errors_errorType)] }
def LearnPlaysSaid : Prop := learnPlaysRow.holds Tryd.pinned (OpenSpec.ofChange learnPlaysSpec)

/-- ITS FALSE NEIGHBOUR: 'it returns false'. Refute it at one input. -/
def learnPlaysWrong : ChangeSpec := { name := "learnPlays", fn := fun _ => fun
  | [d] => { results := [.lit (.bool false)], args := [d] }
  | _ => none }
def LearnPlaysWrongFalsely : Prop := learnPlaysRow.holds Tryd.pinned (OpenSpec.ofChange learnPlaysWrong)

/-- 'ferryhythelaw3.DrrSays': WHATEVER THE INPUT: true; the input reads as it did. -/
def drrSaysSpec : ChangeSpec := { name := "drrSays", fn := fun _ => fun
  | [d1, d2] => { results := [.lit (.bool true)], args := [d1, d2] }
  | _ => none }
def drrSaysRow : OpenClaim := { program := "ytommedhaaojgiaadoor", sum := "b72a79bd0af9f908e33bbba0d47852b55e223a4285b6304be050242187dbaca6", func := "ferryhythe/ferryhythelaw3.DrrSays", spec := "drrSays", inPlace := ["internal/reflectlite.ValueOf", "(internal/reflectlite.Value).Type", "(internal/reflectlite.Value).IsNil", "internal/reflectlite.TypeOf", "(internal/reflectlite.Value).Elem", "(internal/reflectlite.Value).Set"], unfollowed := true, recurses := true, named := ["errors.errorType"], apart := false, laid := [("errors.errorType", laid_errors_errorType)] }
def DrrSaysSaid : Prop := drrSaysRow.holds Tryd.pinned (OpenSpec.ofChange drrSaysSpec)

/-- ITS FALSE NEIGHBOUR: 'it returns false'. Refute it at one input. -/
def drrSaysWrong : ChangeSpec := { name := "drrSays", fn := fun _ => fun
  | [d1, d2] => { results := [.lit (.bool false)], args := [d1, d2] }
  | _ => none }
def DrrSaysWrongFalsely : Prop := drrSaysRow.holds Tryd.pinned (OpenSpec.ofChange drrSaysWrong)

/-- 'ferryhythelaw4.RingSays': WHATEVER THE INPUT: true; the input reads as it did. -/
def ringSaysSpec : ChangeSpec := { name := "ringSays", fn := fun _ => fun
  | [d1, d2] => { results := [.lit (.bool true)], args := [d1, d2] }
  | _ => none }
def ringSaysRow : OpenClaim := { program := "ytommedhaaojgiaadoor", sum := "b72a79bd0af9f908e33bbba0d47852b55e223a4285b6304be050242187dbaca6", func := "ferryhythe/ferryhythelaw4.RingSays", spec := "ringSays", inPlace := ["internal/reflectlite.ValueOf", "(internal/reflectlite.Value).Type", "(internal/reflectlite.Value).IsNil", "internal/reflectlite.TypeOf", "(internal/reflectlite.Value).Elem", "(internal/reflectlite.Value).Set"], unfollowed := true, recurses := true, named := ["errors.errorType"], apart := false, laid := [("errors.errorType", laid_errors_errorType)] }
def RingSaysSaid : Prop := ringSaysRow.holds Tryd.pinned (OpenSpec.ofChange ringSaysSpec)

/-- ITS FALSE NEIGHBOUR: 'it returns false'. Refute it at one input. -/
def ringSaysWrong : ChangeSpec := { name := "ringSays", fn := fun _ => fun
  | [d1, d2] => { results := [.lit (.bool false)], args := [d1, d2] }
  | _ => none }
def RingSaysWrongFalsely : Prop := ringSaysRow.holds Tryd.pinned (OpenSpec.ofChange ringSaysWrong)

/- THE SECOND FORM. 'bulk': how many values and letters a reading holds, each counted each time it is reached (what is shared counts as often as it is met; a slice's spare places count too). A statement '..UptoSaid' is the law's where the arguments, and the package variables that the reading takes, are together of bulk at most 1048576: NARROWER than '..Said'. Prove '..Said' where nothing that the law and all that it calls make is longer than what came in: it says more and counts as full. Else prove '..UptoSaid'. A law counts once. -/
mutual
def uptoBulk {H : Type} : DataW H → Nat
  | .lit (.string bytes) => bytes.length + 1
  | .lit _ => 1
  | .nil => 1
  | .ptr d => uptoBulk d + 1
  | .slice elems spare => uptoBulkAll elems + uptoBulkAll spare + 1
  | .agg parts => uptoBulkAll parts + 1
  | .iface _ d => uptoBulk d + 1
  | .map entries => uptoBulkEntries entries + 1
  | .held _ => 1
def uptoBulkAll {H : Type} : List (DataW H) → Nat
  | [] => 0
  | d :: r => uptoBulk d + uptoBulkAll r
def uptoBulkEntries {H : Type} : List (Lit × DataW H) → Nat
  | [] => 0
  | x :: r => uptoBulkEntry x + uptoBulkEntries r
def uptoBulkEntry {H : Type} : Lit × DataW H → Nat
  | (.string bytes, d) => bytes.length + uptoBulk d + 1
  | (_, d) => uptoBulk d + 1
 end
def uptoSmall : (H : Type) → List (DataW H) → Bool := fun _ ds => decide (uptoBulkAll ds ≤ 1048576)
def OpenSpec.upto (s : _root_.Go.ChangeSpec) : _root_.Go.OpenSpec := { _root_.Go.OpenSpec.ofChange s with cond := some uptoSmall }

/-- 'ferryhythelaw3.LearnForgets', WHERE WHAT IT READS IS OF BULK AT MOST 1048576: true; the input reads as it did. -/
def learnForgetsUptoRow : OpenClaim := { program := "ytommedhaaojgiaadoor", sum := "b72a79bd0af9f908e33bbba0d47852b55e223a4285b6304be050242187dbaca6", func := "ferryhythe/ferryhythelaw3.LearnForgets", spec := "learnForgets", inPlace := ["internal/reflectlite.ValueOf", "(internal/reflectlite.Value).Type", "(internal/reflectlite.Value).IsNil", "internal/reflectlite.TypeOf", "(internal/reflectlite.Value).Elem", "(internal/reflectlite.Value).Set"], unfollowed := true, recurses := true, named := ["errors.errorType"], apart := false, laid := [("errors.errorType", laid_errors_errorType)], narrowed := true }
def LearnForgetsUptoSaid : Prop := learnForgetsUptoRow.holds Tryd.pinned (OpenSpec.upto learnForgetsSpec)

/-- 'ferryhythelaw3.LearnPlays', WHERE WHAT IT READS IS OF BULK AT MOST 1048576: true; the input reads as it did. -/
def learnPlaysUptoRow : OpenClaim := { program := "ytommedhaaojgiaadoor", sum := "b72a79bd0af9f908e33bbba0d47852b55e223a4285b6304be050242187dbaca6", func := "ferryhythe/ferryhythelaw3.LearnPlays", spec := "learnPlays", inPlace := ["internal/reflectlite.ValueOf", "(internal/reflectlite.Value).Type", "(internal/reflectlite.Value).IsNil", "internal/reflectlite.TypeOf", "(internal/reflectlite.Value).Elem", "(internal/reflectlite.Value).Set"], unfollowed := true, recurses := true, named := ["errors.errorType"], apart := false, laid := [("errors.errorType", laid_errors_errorType)], narrowed := true }
def LearnPlaysUptoSaid : Prop := learnPlaysUptoRow.holds Tryd.pinned (OpenSpec.upto learnPlaysSpec)

/-- 'ferryhythelaw3.DrrSays', WHERE WHAT IT READS IS OF BULK AT MOST 1048576: true; the input reads as it did. -/
def drrSaysUptoRow : OpenClaim := { program := "ytommedhaaojgiaadoor", sum := "b72a79bd0af9f908e33bbba0d47852b55e223a4285b6304be050242187dbaca6", func := "ferryhythe/ferryhythelaw3.DrrSays", spec := "drrSays", inPlace := ["internal/reflectlite.ValueOf", "(internal/reflectlite.Value).Type", "(internal/reflectlite.Value).IsNil", "internal/reflectlite.TypeOf", "(internal/reflectlite.Value).Elem", "(internal/reflectlite.Value).Set"], unfollowed := true, recurses := true, named := ["errors.errorType"], apart := false, laid := [("errors.errorType", laid_errors_errorType)], narrowed := true }
def DrrSaysUptoSaid : Prop := drrSaysUptoRow.holds Tryd.pinned (OpenSpec.upto drrSaysSpec)

/-- 'ferryhythelaw4.RingSays', WHERE WHAT IT READS IS OF BULK AT MOST 1048576: true; the input reads as it did. -/
def ringSaysUptoRow : OpenClaim := { program := "ytommedhaaojgiaadoor", sum := "b72a79bd0af9f908e33bbba0d47852b55e223a4285b6304be050242187dbaca6", func := "ferryhythe/ferryhythelaw4.RingSays", spec := "ringSays", inPlace := ["internal/reflectlite.ValueOf", "(internal/reflectlite.Value).Type", "(internal/reflectlite.Value).IsNil", "internal/reflectlite.TypeOf", "(internal/reflectlite.Value).Elem", "(internal/reflectlite.Value).Set"], unfollowed := true, recurses := true, named := ["errors.errorType"], apart := false, laid := [("errors.errorType", laid_errors_errorType)], narrowed := true }
def RingSaysUptoSaid : Prop := ringSaysUptoRow.holds Tryd.pinned (OpenSpec.upto ringSaysSpec)

end Rows
end Go.Proofs.YtommedhaaojgiaaDoor
