/-
  NARROWER THAN 'FOR EVERY INPUT', by the rows' own cells (each row's printed sentence says how): NatBack: laid · NatApart: laid · NatFull: laid · NatPlays: laid · RpfSays: laid.
  DERIVED. THE GIVEN ROWS OF THIS SEAT. 5 by the template 'for every input the law returns true; each argument reads behind the call as it read before'; 0 by the template 'total and deterministic' (their statements: YtnmddgjgmdegoaaDoorTotals.lean).
  GIVEN WITH THE SEED: the statements are not yours to turn. If you find one false, say at which input.
  Laid BY PROGRAM, IN A SANDBOX (cutbox-rows.mjs): the forced cells as the released guide's own fill.sh prints them over the translation ad2c9d6faaabb005… (all of the seat's roots in one cut). By AI agents, Wed Nov 11 2026. No macro, syntax, notation, axiom, sorry.
-/
import Derived.Test.YtnmddgjgmdegoaaDoorChecked
import GoSem.Claim
import GoSem.ClaimJoined
import GoSem.ClaimMapViews
import Derived.JoinedTies
import Derived.KernelRfl
namespace Go.Proofs.YtnmddgjgmdegoaaDoor
/- THE CELL 'sum', in the pinned program and in every row, IS THE sha256 OF THE DUMP (.gsa) THAT YtnmddgjgmdegoaaDoorProg.lean LOADS. Nothing in Lean hashes anything: it is a label: what it is worth is what the hold of that sum in a sandbox is worth. -/
noncomputable def Tryd.pinned : Pinned := { name := "ytnmddgjgmdegoaadoor", sum := "ad2c9d6faaabb0058d82b7ffd733126d85adb2c8529e9bf8c6b11ceb332b6741", checked := Tryd.checked }
namespace Rows
def none {H : Type} : Left H := { results := [], args := [] }

/- WHAT THE LISTED PACKAGE-LEVEL VARIABLES READ AS WHEN THE CALL BEGINS. Each datum BY PROGRAM (the guide's laid-datum.mjs) off the statement by which the dump's own 'gosem.cut.vars' lays the variable. In a bare row this is a premise. The card (YtnmddgjgmdegoaaDoorCards.lean) ties it to the program's text. -/
def laid_errors_errorType {H : Type} : DataW H := .iface "internal/reflectlite.rtype" (.agg [.ptr (.lit (.string [101, 114, 114, 111, 114]))])

/-- 'ferryhythelaw4.NatBack': WHATEVER THE INPUT: true; the input reads as it did. -/
def natBackSpec : ChangeSpec := { name := "natBack", fn := fun _ => fun
  | [d1, d2, d3, d4, d5] => { results := [.lit (.bool true)], args := [d1, d2, d3, d4, d5] }
  | _ => none }
def natBackRow : OpenClaim := { program := "ytnmddgjgmdegoaadoor", sum := "ad2c9d6faaabb0058d82b7ffd733126d85adb2c8529e9bf8c6b11ceb332b6741", func := "ferryhythe/ferryhythelaw4.NatBack", spec := "natBack", inPlace := ["internal/reflectlite.ValueOf", "(internal/reflectlite.Value).Type", "(internal/reflectlite.Value).IsNil", "internal/reflectlite.TypeOf", "(internal/reflectlite.Value).Elem", "(internal/reflectlite.Value).Set"], unfollowed := true, recurses := true, named := ["errors.errorType"], plainKeys := false, apart := false, laid := [("errors.errorType", laid_errors_errorType)] }
def NatBackSaid : Prop := natBackRow.holds Tryd.pinned (OpenSpec.ofChange natBackSpec)

/-- ITS FALSE NEIGHBOUR: 'it returns false'. Refute it at one input. -/
def natBackWrong : ChangeSpec := { name := "natBack", fn := fun _ => fun
  | [d1, d2, d3, d4, d5] => { results := [.lit (.bool false)], args := [d1, d2, d3, d4, d5] }
  | _ => none }
def NatBackWrongFalsely : Prop := natBackRow.holds Tryd.pinned (OpenSpec.ofChange natBackWrong)

/-- 'ferryhythelaw4.NatApart': WHATEVER THE INPUT: true; the input reads as it did. -/
def natApartSpec : ChangeSpec := { name := "natApart", fn := fun _ => fun
  | [d1, d2, d3, d4, d5] => { results := [.lit (.bool true)], args := [d1, d2, d3, d4, d5] }
  | _ => none }
def natApartRow : OpenClaim := { program := "ytnmddgjgmdegoaadoor", sum := "ad2c9d6faaabb0058d82b7ffd733126d85adb2c8529e9bf8c6b11ceb332b6741", func := "ferryhythe/ferryhythelaw4.NatApart", spec := "natApart", inPlace := ["internal/reflectlite.ValueOf", "(internal/reflectlite.Value).Type", "(internal/reflectlite.Value).IsNil", "internal/reflectlite.TypeOf", "(internal/reflectlite.Value).Elem", "(internal/reflectlite.Value).Set"], unfollowed := true, recurses := true, named := ["errors.errorType"], plainKeys := false, apart := false, laid := [("errors.errorType", laid_errors_errorType)] }
def NatApartSaid : Prop := natApartRow.holds Tryd.pinned (OpenSpec.ofChange natApartSpec)

/-- ITS FALSE NEIGHBOUR: 'it returns false'. Refute it at one input. -/
def natApartWrong : ChangeSpec := { name := "natApart", fn := fun _ => fun
  | [d1, d2, d3, d4, d5] => { results := [.lit (.bool false)], args := [d1, d2, d3, d4, d5] }
  | _ => none }
def NatApartWrongFalsely : Prop := natApartRow.holds Tryd.pinned (OpenSpec.ofChange natApartWrong)

/-- 'ferryhythelaw4.NatFull': WHATEVER THE INPUT: true; the input reads as it did. -/
def natFullSpec : ChangeSpec := { name := "natFull", fn := fun _ => fun
  | [d1, d2, d3] => { results := [.lit (.bool true)], args := [d1, d2, d3] }
  | _ => none }
def natFullRow : OpenClaim := { program := "ytnmddgjgmdegoaadoor", sum := "ad2c9d6faaabb0058d82b7ffd733126d85adb2c8529e9bf8c6b11ceb332b6741", func := "ferryhythe/ferryhythelaw4.NatFull", spec := "natFull", inPlace := ["internal/reflectlite.ValueOf", "(internal/reflectlite.Value).Type", "(internal/reflectlite.Value).IsNil", "internal/reflectlite.TypeOf", "(internal/reflectlite.Value).Elem", "(internal/reflectlite.Value).Set"], unfollowed := true, recurses := true, named := ["errors.errorType"], plainKeys := false, apart := false, laid := [("errors.errorType", laid_errors_errorType)] }
def NatFullSaid : Prop := natFullRow.holds Tryd.pinned (OpenSpec.ofChange natFullSpec)

/-- ITS FALSE NEIGHBOUR: 'it returns false'. Refute it at one input. -/
def natFullWrong : ChangeSpec := { name := "natFull", fn := fun _ => fun
  | [d1, d2, d3] => { results := [.lit (.bool false)], args := [d1, d2, d3] }
  | _ => none }
def NatFullWrongFalsely : Prop := natFullRow.holds Tryd.pinned (OpenSpec.ofChange natFullWrong)

/-- 'ferryhythelaw4.NatPlays': WHATEVER THE INPUT: true; the input reads as it did. -/
def natPlaysSpec : ChangeSpec := { name := "natPlays", fn := fun _ => fun
  | [d1, d2, d3, d4] => { results := [.lit (.bool true)], args := [d1, d2, d3, d4] }
  | _ => none }
def natPlaysRow : OpenClaim := { program := "ytnmddgjgmdegoaadoor", sum := "ad2c9d6faaabb0058d82b7ffd733126d85adb2c8529e9bf8c6b11ceb332b6741", func := "ferryhythe/ferryhythelaw4.NatPlays", spec := "natPlays", inPlace := ["internal/reflectlite.ValueOf", "(internal/reflectlite.Value).Type", "(internal/reflectlite.Value).IsNil", "internal/reflectlite.TypeOf", "(internal/reflectlite.Value).Elem", "(internal/reflectlite.Value).Set"], unfollowed := true, recurses := true, named := ["errors.errorType"], plainKeys := false, apart := false, laid := [("errors.errorType", laid_errors_errorType)] }
def NatPlaysSaid : Prop := natPlaysRow.holds Tryd.pinned (OpenSpec.ofChange natPlaysSpec)

/-- ITS FALSE NEIGHBOUR: 'it returns false'. Refute it at one input. -/
def natPlaysWrong : ChangeSpec := { name := "natPlays", fn := fun _ => fun
  | [d1, d2, d3, d4] => { results := [.lit (.bool false)], args := [d1, d2, d3, d4] }
  | _ => none }
def NatPlaysWrongFalsely : Prop := natPlaysRow.holds Tryd.pinned (OpenSpec.ofChange natPlaysWrong)

/-- 'ferryhythelaw3.RpfSays': WHATEVER THE INPUT: true; the input reads as it did. -/
def rpfSaysSpec : ChangeSpec := { name := "rpfSays", fn := fun _ => fun
  | [d1, d2, d3, d4] => { results := [.lit (.bool true)], args := [d1, d2, d3, d4] }
  | _ => none }
def rpfSaysRow : OpenClaim := { program := "ytnmddgjgmdegoaadoor", sum := "ad2c9d6faaabb0058d82b7ffd733126d85adb2c8529e9bf8c6b11ceb332b6741", func := "ferryhythe/ferryhythelaw3.RpfSays", spec := "rpfSays", inPlace := ["internal/reflectlite.ValueOf", "(internal/reflectlite.Value).Type", "(internal/reflectlite.Value).IsNil", "internal/reflectlite.TypeOf", "(internal/reflectlite.Value).Elem", "(internal/reflectlite.Value).Set"], unfollowed := true, recurses := true, named := ["errors.errorType"], plainKeys := false, apart := false, laid := [("errors.errorType", laid_errors_errorType)] }
def RpfSaysSaid : Prop := rpfSaysRow.holds Tryd.pinned (OpenSpec.ofChange rpfSaysSpec)

/-- ITS FALSE NEIGHBOUR: 'it returns false'. Refute it at one input. -/
def rpfSaysWrong : ChangeSpec := { name := "rpfSays", fn := fun _ => fun
  | [d1, d2, d3, d4] => { results := [.lit (.bool false)], args := [d1, d2, d3, d4] }
  | _ => none }
def RpfSaysWrongFalsely : Prop := rpfSaysRow.holds Tryd.pinned (OpenSpec.ofChange rpfSaysWrong)

/- THE SECOND FORM. 'bulk': how many values and letters a reading holds, each counted each time it is reached (what is shared counts as often as it is met; a slice's spare places count too). A statement '..UptoSaid' is the law's where the arguments, and the package variables that the reading takes, are together of bulk at most 1048576: NARROWER than '..Said'. Prove '..Said' where nothing that the law and all that it calls make is longer than what came in: it says more and counts as full. Else prove '..UptoSaid'. A law counts once. -/
mutual
def uptoBulk {H : Type} : DataW H → Nat
  | .lit (.string bytes) => bytes.length + 1
  | .lit _ => 1
  | .nil => 1
  | .ptr d => uptoBulk d + 1
  | .slice elems spare => uptoBulkAll elems + uptoBulkAll spare + 1
  | .agg parts => uptoBulkAll parts + 1
  | .iface _ d => uptoBulk d + 1
  | .map entries => uptoBulkEntries entries + 1
  | .held _ => 1
def uptoBulkAll {H : Type} : List (DataW H) → Nat
  | [] => 0
  | d :: r => uptoBulk d + uptoBulkAll r
def uptoBulkEntries {H : Type} : List (Lit × DataW H) → Nat
  | [] => 0
  | x :: r => uptoBulkEntry x + uptoBulkEntries r
def uptoBulkEntry {H : Type} : Lit × DataW H → Nat
  | (.string bytes, d) => bytes.length + uptoBulk d + 1
  | (_, d) => uptoBulk d + 1
 end
def uptoSmall : (H : Type) → List (DataW H) → Bool := fun _ ds => decide (uptoBulkAll ds ≤ 1048576)
def OpenSpec.upto (s : _root_.Go.ChangeSpec) : _root_.Go.OpenSpec := { _root_.Go.OpenSpec.ofChange s with cond := some uptoSmall }

/-- 'ferryhythelaw4.NatBack', WHERE WHAT IT READS IS OF BULK AT MOST 1048576: true; the input reads as it did. -/
def natBackUptoRow : OpenClaim := { program := "ytnmddgjgmdegoaadoor", sum := "ad2c9d6faaabb0058d82b7ffd733126d85adb2c8529e9bf8c6b11ceb332b6741", func := "ferryhythe/ferryhythelaw4.NatBack", spec := "natBack", inPlace := ["internal/reflectlite.ValueOf", "(internal/reflectlite.Value).Type", "(internal/reflectlite.Value).IsNil", "internal/reflectlite.TypeOf", "(internal/reflectlite.Value).Elem", "(internal/reflectlite.Value).Set"], unfollowed := true, recurses := true, named := ["errors.errorType"], plainKeys := false, apart := false, laid := [("errors.errorType", laid_errors_errorType)], narrowed := true }
def NatBackUptoSaid : Prop := natBackUptoRow.holds Tryd.pinned (OpenSpec.upto natBackSpec)

/-- 'ferryhythelaw4.NatApart', WHERE WHAT IT READS IS OF BULK AT MOST 1048576: true; the input reads as it did. -/
def natApartUptoRow : OpenClaim := { program := "ytnmddgjgmdegoaadoor", sum := "ad2c9d6faaabb0058d82b7ffd733126d85adb2c8529e9bf8c6b11ceb332b6741", func := "ferryhythe/ferryhythelaw4.NatApart", spec := "natApart", inPlace := ["internal/reflectlite.ValueOf", "(internal/reflectlite.Value).Type", "(internal/reflectlite.Value).IsNil", "internal/reflectlite.TypeOf", "(internal/reflectlite.Value).Elem", "(internal/reflectlite.Value).Set"], unfollowed := true, recurses := true, named := ["errors.errorType"], plainKeys := false, apart := false, laid := [("errors.errorType", laid_errors_errorType)], narrowed := true }
def NatApartUptoSaid : Prop := natApartUptoRow.holds Tryd.pinned (OpenSpec.upto natApartSpec)

/-- 'ferryhythelaw4.NatFull', WHERE WHAT IT READS IS OF BULK AT MOST 1048576: true; the input reads as it did. -/
def natFullUptoRow : OpenClaim := { program := "ytnmddgjgmdegoaadoor", sum := "ad2c9d6faaabb0058d82b7ffd733126d85adb2c8529e9bf8c6b11ceb332b6741", func := "ferryhythe/ferryhythelaw4.NatFull", spec := "natFull", inPlace := ["internal/reflectlite.ValueOf", "(internal/reflectlite.Value).Type", "(internal/reflectlite.Value).IsNil", "internal/reflectlite.TypeOf", "(internal/reflectlite.Value).Elem", "(internal/reflectlite.Value).Set"], unfollowed := true, recurses := true, named := ["errors.errorType"], plainKeys := false, apart := false, laid := [("errors.errorType", laid_errors_errorType)], narrowed := true }
def NatFullUptoSaid : Prop := natFullUptoRow.holds Tryd.pinned (OpenSpec.upto natFullSpec)

/-- 'ferryhythelaw4.NatPlays', WHERE WHAT IT READS IS OF BULK AT MOST 1048576: true; the input reads as it did. -/
def natPlaysUptoRow : OpenClaim := { program := "ytnmddgjgmdegoaadoor", sum := "ad2c9d6faaabb0058d82b7ffd733126d85adb2c8529e9bf8c6b11ceb332b6741", func := "ferryhythe/ferryhythelaw4.NatPlays", spec := "natPlays", inPlace := ["internal/reflectlite.ValueOf", "(internal/reflectlite.Value).Type", "(internal/reflectlite.Value).IsNil", "internal/reflectlite.TypeOf", "(internal/reflectlite.Value).Elem", "(internal/reflectlite.Value).Set"], unfollowed := true, recurses := true, named := ["errors.errorType"], plainKeys := false, apart := false, laid := [("errors.errorType", laid_errors_errorType)], narrowed := true }
def NatPlaysUptoSaid : Prop := natPlaysUptoRow.holds Tryd.pinned (OpenSpec.upto natPlaysSpec)

/-- 'ferryhythelaw3.RpfSays', WHERE WHAT IT READS IS OF BULK AT MOST 1048576: true; the input reads as it did. -/
def rpfSaysUptoRow : OpenClaim := { program := "ytnmddgjgmdegoaadoor", sum := "ad2c9d6faaabb0058d82b7ffd733126d85adb2c8529e9bf8c6b11ceb332b6741", func := "ferryhythe/ferryhythelaw3.RpfSays", spec := "rpfSays", inPlace := ["internal/reflectlite.ValueOf", "(internal/reflectlite.Value).Type", "(internal/reflectlite.Value).IsNil", "internal/reflectlite.TypeOf", "(internal/reflectlite.Value).Elem", "(internal/reflectlite.Value).Set"], unfollowed := true, recurses := true, named := ["errors.errorType"], plainKeys := false, apart := false, laid := [("errors.errorType", laid_errors_errorType)], narrowed := true }
def RpfSaysUptoSaid : Prop := rpfSaysUptoRow.holds Tryd.pinned (OpenSpec.upto rpfSaysSpec)

end Rows
end Go.Proofs.YtnmddgjgmdegoaaDoor
