/-
  No cell of these rows narrows 'for every input' (looked for: loops, veiled, ifaces, maps, wideKeys, modest, calm, conditions, laid).
  DERIVED. THE GIVEN ROWS OF THIS SEAT. 8 by the template 'for every input the law returns true; each argument reads behind the call as it read before'; 0 by the template 'total and deterministic' (their statements: YtkheccnjcaljdaaTotals.lean).
  GIVEN WITH THE SEED: the statements are not yours to turn. If you find one false, say at which input.
  Laid BY PROGRAM, IN A SANDBOX (cutbox-rows.mjs): the forced cells as the released guide's own fill.sh prints them over the translation cb3e8b2923475d6a… (all of the seat's roots in one cut). By AI agents, Wed Nov 11 2026. No macro, syntax, notation, axiom, sorry.
-/
import Derived.Test.YtkheccnjcaljdaaChecked
import GoSem.Claim
import GoSem.ClaimJoined
import GoSem.ClaimMapViews
import Derived.JoinedTies
import Derived.KernelRfl
namespace Go.Proofs.Ytkheccnjcaljdaa
/- THE CELL 'sum', in the pinned program and in every row, IS THE sha256 OF THE DUMP (.gsa) THAT YtkheccnjcaljdaaProg.lean LOADS. Nothing in Lean hashes anything: it is a label: what it is worth is what the hold of that sum in a sandbox is worth. -/
noncomputable def Try.pinned : Pinned := { name := "ytkheccnjcaljdaa", sum := "cb3e8b2923475d6a19e9023bf81b81739d4f40164d92c3a09fde11ac0a034e7e", checked := Try.checked }
namespace Rows
def none {H : Type} : Left H := { results := [], args := [] }

/-- 'ferryhythelaw3.VectorSettles': WHATEVER THE INPUT: true; the input reads as it did. -/
def vectorSettlesSpec : ChangeSpec := { name := "vectorSettles", fn := fun _ => fun
  | [d1, d2, d3] => { results := [.lit (.bool true)], args := [d1, d2, d3] }
  | _ => none }
def vectorSettlesRow : OpenClaim := { program := "ytkheccnjcaljdaa", sum := "cb3e8b2923475d6a19e9023bf81b81739d4f40164d92c3a09fde11ac0a034e7e", func := "ferryhythe/ferryhythelaw3.VectorSettles", spec := "vectorSettles", unfollowed := true, recurses := true, apart := false }
def VectorSettlesSaid : Prop := vectorSettlesRow.holds Try.pinned (OpenSpec.ofChange vectorSettlesSpec)

/-- ITS FALSE NEIGHBOUR: 'it returns false'. Refute it at one input. -/
def vectorSettlesWrong : ChangeSpec := { name := "vectorSettles", fn := fun _ => fun
  | [d1, d2, d3] => { results := [.lit (.bool false)], args := [d1, d2, d3] }
  | _ => none }
def VectorSettlesWrongFalsely : Prop := vectorSettlesRow.holds Try.pinned (OpenSpec.ofChange vectorSettlesWrong)

/-- 'ferryhythelaw3.VectorBoth': WHATEVER THE INPUT: true; the input reads as it did. -/
def vectorBothSpec : ChangeSpec := { name := "vectorBoth", fn := fun _ => fun
  | [d1, d2] => { results := [.lit (.bool true)], args := [d1, d2] }
  | _ => none }
def vectorBothRow : OpenClaim := { program := "ytkheccnjcaljdaa", sum := "cb3e8b2923475d6a19e9023bf81b81739d4f40164d92c3a09fde11ac0a034e7e", func := "ferryhythe/ferryhythelaw3.VectorBoth", spec := "vectorBoth", unfollowed := true, recurses := true, apart := false }
def VectorBothSaid : Prop := vectorBothRow.holds Try.pinned (OpenSpec.ofChange vectorBothSpec)

/-- ITS FALSE NEIGHBOUR: 'it returns false'. Refute it at one input. -/
def vectorBothWrong : ChangeSpec := { name := "vectorBoth", fn := fun _ => fun
  | [d1, d2] => { results := [.lit (.bool false)], args := [d1, d2] }
  | _ => none }
def VectorBothWrongFalsely : Prop := vectorBothRow.holds Try.pinned (OpenSpec.ofChange vectorBothWrong)

/-- 'ferryhythelaw3.VectorReach': WHATEVER THE INPUT: true; the input reads as it did. -/
def vectorReachSpec : ChangeSpec := { name := "vectorReach", fn := fun _ => fun
  | [d1, d2, d3] => { results := [.lit (.bool true)], args := [d1, d2, d3] }
  | _ => none }
def vectorReachRow : OpenClaim := { program := "ytkheccnjcaljdaa", sum := "cb3e8b2923475d6a19e9023bf81b81739d4f40164d92c3a09fde11ac0a034e7e", func := "ferryhythe/ferryhythelaw3.VectorReach", spec := "vectorReach", unfollowed := true, recurses := true, apart := false }
def VectorReachSaid : Prop := vectorReachRow.holds Try.pinned (OpenSpec.ofChange vectorReachSpec)

/-- ITS FALSE NEIGHBOUR: 'it returns false'. Refute it at one input. -/
def vectorReachWrong : ChangeSpec := { name := "vectorReach", fn := fun _ => fun
  | [d1, d2, d3] => { results := [.lit (.bool false)], args := [d1, d2, d3] }
  | _ => none }
def VectorReachWrongFalsely : Prop := vectorReachRow.holds Try.pinned (OpenSpec.ofChange vectorReachWrong)

/-- 'ferryhythelaw3.StpSame': WHATEVER THE INPUT: true; the input reads as it did. -/
def stpSameSpec : ChangeSpec := { name := "stpSame", fn := fun _ => fun
  | [d1, d2] => { results := [.lit (.bool true)], args := [d1, d2] }
  | _ => none }
def stpSameRow : OpenClaim := { program := "ytkheccnjcaljdaa", sum := "cb3e8b2923475d6a19e9023bf81b81739d4f40164d92c3a09fde11ac0a034e7e", func := "ferryhythe/ferryhythelaw3.StpSame", spec := "stpSame", apart := false }
def StpSameSaid : Prop := stpSameRow.holds Try.pinned (OpenSpec.ofChange stpSameSpec)

/-- ITS FALSE NEIGHBOUR: 'it returns false'. Refute it at one input. -/
def stpSameWrong : ChangeSpec := { name := "stpSame", fn := fun _ => fun
  | [d1, d2] => { results := [.lit (.bool false)], args := [d1, d2] }
  | _ => none }
def StpSameWrongFalsely : Prop := stpSameRow.holds Try.pinned (OpenSpec.ofChange stpSameWrong)

/-- 'ferryhythelaw3.StpTree': WHATEVER THE INPUT: true; the input reads as it did. -/
def stpTreeSpec : ChangeSpec := { name := "stpTree", fn := fun _ => fun
  | [d1, d2] => { results := [.lit (.bool true)], args := [d1, d2] }
  | _ => none }
def stpTreeRow : OpenClaim := { program := "ytkheccnjcaljdaa", sum := "cb3e8b2923475d6a19e9023bf81b81739d4f40164d92c3a09fde11ac0a034e7e", func := "ferryhythe/ferryhythelaw3.StpTree", spec := "stpTree", apart := false }
def StpTreeSaid : Prop := stpTreeRow.holds Try.pinned (OpenSpec.ofChange stpTreeSpec)

/-- ITS FALSE NEIGHBOUR: 'it returns false'. Refute it at one input. -/
def stpTreeWrong : ChangeSpec := { name := "stpTree", fn := fun _ => fun
  | [d1, d2] => { results := [.lit (.bool false)], args := [d1, d2] }
  | _ => none }
def StpTreeWrongFalsely : Prop := stpTreeRow.holds Try.pinned (OpenSpec.ofChange stpTreeWrong)

/-- 'ferryhythelaw3.StpCut': WHATEVER THE INPUT: true; the input reads as it did. -/
def stpCutSpec : ChangeSpec := { name := "stpCut", fn := fun _ => fun
  | [d1, d2, d3] => { results := [.lit (.bool true)], args := [d1, d2, d3] }
  | _ => none }
def stpCutRow : OpenClaim := { program := "ytkheccnjcaljdaa", sum := "cb3e8b2923475d6a19e9023bf81b81739d4f40164d92c3a09fde11ac0a034e7e", func := "ferryhythe/ferryhythelaw3.StpCut", spec := "stpCut", apart := false }
def StpCutSaid : Prop := stpCutRow.holds Try.pinned (OpenSpec.ofChange stpCutSpec)

/-- ITS FALSE NEIGHBOUR: 'it returns false'. Refute it at one input. -/
def stpCutWrong : ChangeSpec := { name := "stpCut", fn := fun _ => fun
  | [d1, d2, d3] => { results := [.lit (.bool false)], args := [d1, d2, d3] }
  | _ => none }
def StpCutWrongFalsely : Prop := stpCutRow.holds Try.pinned (OpenSpec.ofChange stpCutWrong)

/-- 'ferryhythelaw3.RoundsSoon': WHATEVER THE INPUT: true; the input reads as it did. -/
def roundsSoonSpec : ChangeSpec := { name := "roundsSoon", fn := fun _ => fun
  | [d] => { results := [.lit (.bool true)], args := [d] }
  | _ => none }
def roundsSoonRow : OpenClaim := { program := "ytkheccnjcaljdaa", sum := "cb3e8b2923475d6a19e9023bf81b81739d4f40164d92c3a09fde11ac0a034e7e", func := "ferryhythe/ferryhythelaw3.RoundsSoon", spec := "roundsSoon", unfollowed := true, recurses := true, apart := false }
def RoundsSoonSaid : Prop := roundsSoonRow.holds Try.pinned (OpenSpec.ofChange roundsSoonSpec)

/-- ITS FALSE NEIGHBOUR: 'it returns false'. Refute it at one input. -/
def roundsSoonWrong : ChangeSpec := { name := "roundsSoon", fn := fun _ => fun
  | [d] => { results := [.lit (.bool false)], args := [d] }
  | _ => none }
def RoundsSoonWrongFalsely : Prop := roundsSoonRow.holds Try.pinned (OpenSpec.ofChange roundsSoonWrong)

/-- 'ferryhythelaw3.RoundsApart': WHATEVER THE INPUT: true; the input reads as it did. -/
def roundsApartSpec : ChangeSpec := { name := "roundsApart", fn := fun _ => fun
  | [d1, d2, d3] => { results := [.lit (.bool true)], args := [d1, d2, d3] }
  | _ => none }
def roundsApartRow : OpenClaim := { program := "ytkheccnjcaljdaa", sum := "cb3e8b2923475d6a19e9023bf81b81739d4f40164d92c3a09fde11ac0a034e7e", func := "ferryhythe/ferryhythelaw3.RoundsApart", spec := "roundsApart", unfollowed := true, recurses := true, apart := false }
def RoundsApartSaid : Prop := roundsApartRow.holds Try.pinned (OpenSpec.ofChange roundsApartSpec)

/-- ITS FALSE NEIGHBOUR: 'it returns false'. Refute it at one input. -/
def roundsApartWrong : ChangeSpec := { name := "roundsApart", fn := fun _ => fun
  | [d1, d2, d3] => { results := [.lit (.bool false)], args := [d1, d2, d3] }
  | _ => none }
def RoundsApartWrongFalsely : Prop := roundsApartRow.holds Try.pinned (OpenSpec.ofChange roundsApartWrong)

/- THE SECOND FORM. 'bulk': how many values and letters a reading holds, each counted each time it is reached (what is shared counts as often as it is met; a slice's spare places count too). A statement '..UptoSaid' is the law's where the arguments, and the package variables that the reading takes, are together of bulk at most 1048576: NARROWER than '..Said'. Prove '..Said' where nothing that the law and all that it calls make is longer than what came in: it says more and counts as full. Else prove '..UptoSaid'. A law counts once. -/
mutual
def uptoBulk {H : Type} : DataW H → Nat
  | .lit (.string bytes) => bytes.length + 1
  | .lit _ => 1
  | .nil => 1
  | .ptr d => uptoBulk d + 1
  | .slice elems spare => uptoBulkAll elems + uptoBulkAll spare + 1
  | .agg parts => uptoBulkAll parts + 1
  | .iface _ d => uptoBulk d + 1
  | .map entries => uptoBulkEntries entries + 1
  | .held _ => 1
def uptoBulkAll {H : Type} : List (DataW H) → Nat
  | [] => 0
  | d :: r => uptoBulk d + uptoBulkAll r
def uptoBulkEntries {H : Type} : List (Lit × DataW H) → Nat
  | [] => 0
  | x :: r => uptoBulkEntry x + uptoBulkEntries r
def uptoBulkEntry {H : Type} : Lit × DataW H → Nat
  | (.string bytes, d) => bytes.length + uptoBulk d + 1
  | (_, d) => uptoBulk d + 1
 end
def uptoSmall : (H : Type) → List (DataW H) → Bool := fun _ ds => decide (uptoBulkAll ds ≤ 1048576)
def OpenSpec.upto (s : _root_.Go.ChangeSpec) : _root_.Go.OpenSpec := { _root_.Go.OpenSpec.ofChange s with cond := some uptoSmall }

/-- 'ferryhythelaw3.VectorSettles', WHERE WHAT IT READS IS OF BULK AT MOST 1048576: true; the input reads as it did. -/
def vectorSettlesUptoRow : OpenClaim := { program := "ytkheccnjcaljdaa", sum := "cb3e8b2923475d6a19e9023bf81b81739d4f40164d92c3a09fde11ac0a034e7e", func := "ferryhythe/ferryhythelaw3.VectorSettles", spec := "vectorSettles", unfollowed := true, recurses := true, apart := false, narrowed := true }
def VectorSettlesUptoSaid : Prop := vectorSettlesUptoRow.holds Try.pinned (OpenSpec.upto vectorSettlesSpec)

/-- 'ferryhythelaw3.VectorBoth', WHERE WHAT IT READS IS OF BULK AT MOST 1048576: true; the input reads as it did. -/
def vectorBothUptoRow : OpenClaim := { program := "ytkheccnjcaljdaa", sum := "cb3e8b2923475d6a19e9023bf81b81739d4f40164d92c3a09fde11ac0a034e7e", func := "ferryhythe/ferryhythelaw3.VectorBoth", spec := "vectorBoth", unfollowed := true, recurses := true, apart := false, narrowed := true }
def VectorBothUptoSaid : Prop := vectorBothUptoRow.holds Try.pinned (OpenSpec.upto vectorBothSpec)

/-- 'ferryhythelaw3.VectorReach', WHERE WHAT IT READS IS OF BULK AT MOST 1048576: true; the input reads as it did. -/
def vectorReachUptoRow : OpenClaim := { program := "ytkheccnjcaljdaa", sum := "cb3e8b2923475d6a19e9023bf81b81739d4f40164d92c3a09fde11ac0a034e7e", func := "ferryhythe/ferryhythelaw3.VectorReach", spec := "vectorReach", unfollowed := true, recurses := true, apart := false, narrowed := true }
def VectorReachUptoSaid : Prop := vectorReachUptoRow.holds Try.pinned (OpenSpec.upto vectorReachSpec)

/-- 'ferryhythelaw3.StpSame', WHERE WHAT IT READS IS OF BULK AT MOST 1048576: true; the input reads as it did. -/
def stpSameUptoRow : OpenClaim := { program := "ytkheccnjcaljdaa", sum := "cb3e8b2923475d6a19e9023bf81b81739d4f40164d92c3a09fde11ac0a034e7e", func := "ferryhythe/ferryhythelaw3.StpSame", spec := "stpSame", apart := false, narrowed := true }
def StpSameUptoSaid : Prop := stpSameUptoRow.holds Try.pinned (OpenSpec.upto stpSameSpec)

/-- 'ferryhythelaw3.StpTree', WHERE WHAT IT READS IS OF BULK AT MOST 1048576: true; the input reads as it did. -/
def stpTreeUptoRow : OpenClaim := { program := "ytkheccnjcaljdaa", sum := "cb3e8b2923475d6a19e9023bf81b81739d4f40164d92c3a09fde11ac0a034e7e", func := "ferryhythe/ferryhythelaw3.StpTree", spec := "stpTree", apart := false, narrowed := true }
def StpTreeUptoSaid : Prop := stpTreeUptoRow.holds Try.pinned (OpenSpec.upto stpTreeSpec)

/-- 'ferryhythelaw3.StpCut', WHERE WHAT IT READS IS OF BULK AT MOST 1048576: true; the input reads as it did. -/
def stpCutUptoRow : OpenClaim := { program := "ytkheccnjcaljdaa", sum := "cb3e8b2923475d6a19e9023bf81b81739d4f40164d92c3a09fde11ac0a034e7e", func := "ferryhythe/ferryhythelaw3.StpCut", spec := "stpCut", apart := false, narrowed := true }
def StpCutUptoSaid : Prop := stpCutUptoRow.holds Try.pinned (OpenSpec.upto stpCutSpec)

/-- 'ferryhythelaw3.RoundsSoon', WHERE WHAT IT READS IS OF BULK AT MOST 1048576: true; the input reads as it did. -/
def roundsSoonUptoRow : OpenClaim := { program := "ytkheccnjcaljdaa", sum := "cb3e8b2923475d6a19e9023bf81b81739d4f40164d92c3a09fde11ac0a034e7e", func := "ferryhythe/ferryhythelaw3.RoundsSoon", spec := "roundsSoon", unfollowed := true, recurses := true, apart := false, narrowed := true }
def RoundsSoonUptoSaid : Prop := roundsSoonUptoRow.holds Try.pinned (OpenSpec.upto roundsSoonSpec)

/-- 'ferryhythelaw3.RoundsApart', WHERE WHAT IT READS IS OF BULK AT MOST 1048576: true; the input reads as it did. -/
def roundsApartUptoRow : OpenClaim := { program := "ytkheccnjcaljdaa", sum := "cb3e8b2923475d6a19e9023bf81b81739d4f40164d92c3a09fde11ac0a034e7e", func := "ferryhythe/ferryhythelaw3.RoundsApart", spec := "roundsApart", unfollowed := true, recurses := true, apart := false, narrowed := true }
def RoundsApartUptoSaid : Prop := roundsApartUptoRow.holds Try.pinned (OpenSpec.upto roundsApartSpec)

end Rows
end Go.Proofs.Ytkheccnjcaljdaa
