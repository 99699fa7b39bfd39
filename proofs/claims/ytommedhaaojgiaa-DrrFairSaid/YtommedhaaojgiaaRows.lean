/-
  No cell of these rows narrows 'for every input' (looked for: loops, veiled, ifaces, maps, wideKeys, modest, calm, conditions, laid).
  DERIVED. THE GIVEN ROWS OF THIS SEAT. 9 by the template 'for every input the law returns true; each argument reads behind the call as it read before'; 0 by the template 'total and deterministic' (their statements: YtommedhaaojgiaaTotals.lean).
  GIVEN WITH THE SEED: the statements are not yours to turn. If you find one false, say at which input.
  Laid BY PROGRAM, IN A SANDBOX (cutbox-rows.mjs): the forced cells as the released guide's own fill.sh prints them over the translation 09558d7193fe4fd0… (all of the seat's roots in one cut). By AI agents, Wed Nov 11 2026. No macro, syntax, notation, axiom, sorry.
-/
import Derived.Test.YtommedhaaojgiaaChecked
import GoSem.Claim
import GoSem.ClaimJoined
import GoSem.ClaimMapViews
import Derived.JoinedTies
import Derived.KernelRfl
namespace Go.Proofs.Ytommedhaaojgiaa
/- THE CELL 'sum', in the pinned program and in every row, IS THE sha256 OF THE DUMP (.gsa) THAT YtommedhaaojgiaaProg.lean LOADS. Nothing in Lean hashes anything: it is a label: what it is worth is what the hold of that sum in a sandbox is worth. -/
noncomputable def Try.pinned : Pinned := { name := "ytommedhaaojgiaa", sum := "09558d7193fe4fd031ffcd358abae0e8efe30da680602e6d0baa3bd94561ceb4", checked := Try.checked }
namespace Rows
def none {H : Type} : Left H := { results := [], args := [] }

/-- 'ferryhythelaw3.LearnAnswer': WHATEVER THE INPUT: true; the input reads as it did. -/
def learnAnswerSpec : ChangeSpec := { name := "learnAnswer", fn := fun _ => fun
  | [d1, d2, d3, d4, d5] => { results := [.lit (.bool true)], args := [d1, d2, d3, d4, d5] }
  | _ => none }
def learnAnswerRow : OpenClaim := { program := "ytommedhaaojgiaa", sum := "09558d7193fe4fd031ffcd358abae0e8efe30da680602e6d0baa3bd94561ceb4", func := "ferryhythe/ferryhythelaw3.LearnAnswer", spec := "learnAnswer", apart := false }
def LearnAnswerSaid : Prop := learnAnswerRow.holds Try.pinned (OpenSpec.ofChange learnAnswerSpec)

/-- ITS FALSE NEIGHBOUR: 'it returns false'. Refute it at one input. -/
def learnAnswerWrong : ChangeSpec := { name := "learnAnswer", fn := fun _ => fun
  | [d1, d2, d3, d4, d5] => { results := [.lit (.bool false)], args := [d1, d2, d3, d4, d5] }
  | _ => none }
def LearnAnswerWrongFalsely : Prop := learnAnswerRow.holds Try.pinned (OpenSpec.ofChange learnAnswerWrong)

/-- 'ferryhythelaw3.LearnFlood': WHATEVER THE INPUT: true; the input reads as it did. -/
def learnFloodSpec : ChangeSpec := { name := "learnFlood", fn := fun _ => fun
  | [d1, d2, d3, d4] => { results := [.lit (.bool true)], args := [d1, d2, d3, d4] }
  | _ => none }
def learnFloodRow : OpenClaim := { program := "ytommedhaaojgiaa", sum := "09558d7193fe4fd031ffcd358abae0e8efe30da680602e6d0baa3bd94561ceb4", func := "ferryhythe/ferryhythelaw3.LearnFlood", spec := "learnFlood", apart := false }
def LearnFloodSaid : Prop := learnFloodRow.holds Try.pinned (OpenSpec.ofChange learnFloodSpec)

/-- ITS FALSE NEIGHBOUR: 'it returns false'. Refute it at one input. -/
def learnFloodWrong : ChangeSpec := { name := "learnFlood", fn := fun _ => fun
  | [d1, d2, d3, d4] => { results := [.lit (.bool false)], args := [d1, d2, d3, d4] }
  | _ => none }
def LearnFloodWrongFalsely : Prop := learnFloodRow.holds Try.pinned (OpenSpec.ofChange learnFloodWrong)

/-- 'ferryhythelaw3.LearnDown': WHATEVER THE INPUT: true; the input reads as it did. -/
def learnDownSpec : ChangeSpec := { name := "learnDown", fn := fun _ => fun
  | [d1, d2, d3, d4] => { results := [.lit (.bool true)], args := [d1, d2, d3, d4] }
  | _ => none }
def learnDownRow : OpenClaim := { program := "ytommedhaaojgiaa", sum := "09558d7193fe4fd031ffcd358abae0e8efe30da680602e6d0baa3bd94561ceb4", func := "ferryhythe/ferryhythelaw3.LearnDown", spec := "learnDown", apart := false }
def LearnDownSaid : Prop := learnDownRow.holds Try.pinned (OpenSpec.ofChange learnDownSpec)

/-- ITS FALSE NEIGHBOUR: 'it returns false'. Refute it at one input. -/
def learnDownWrong : ChangeSpec := { name := "learnDown", fn := fun _ => fun
  | [d1, d2, d3, d4] => { results := [.lit (.bool false)], args := [d1, d2, d3, d4] }
  | _ => none }
def LearnDownWrongFalsely : Prop := learnDownRow.holds Try.pinned (OpenSpec.ofChange learnDownWrong)

/-- 'ferryhythelaw3.DrrOnce': WHATEVER THE INPUT: true; the input reads as it did. -/
def drrOnceSpec : ChangeSpec := { name := "drrOnce", fn := fun _ => fun
  | [d1, d2] => { results := [.lit (.bool true)], args := [d1, d2] }
  | _ => none }
def drrOnceRow : OpenClaim := { program := "ytommedhaaojgiaa", sum := "09558d7193fe4fd031ffcd358abae0e8efe30da680602e6d0baa3bd94561ceb4", func := "ferryhythe/ferryhythelaw3.DrrOnce", spec := "drrOnce", apart := false }
def DrrOnceSaid : Prop := drrOnceRow.holds Try.pinned (OpenSpec.ofChange drrOnceSpec)

/-- ITS FALSE NEIGHBOUR: 'it returns false'. Refute it at one input. -/
def drrOnceWrong : ChangeSpec := { name := "drrOnce", fn := fun _ => fun
  | [d1, d2] => { results := [.lit (.bool false)], args := [d1, d2] }
  | _ => none }
def DrrOnceWrongFalsely : Prop := drrOnceRow.holds Try.pinned (OpenSpec.ofChange drrOnceWrong)

/-- 'ferryhythelaw3.DrrFair': WHATEVER THE INPUT: true; the input reads as it did. -/
def drrFairSpec : ChangeSpec := { name := "drrFair", fn := fun _ => fun
  | [d1, d2, d3, d4] => { results := [.lit (.bool true)], args := [d1, d2, d3, d4] }
  | _ => none }
def drrFairRow : OpenClaim := { program := "ytommedhaaojgiaa", sum := "09558d7193fe4fd031ffcd358abae0e8efe30da680602e6d0baa3bd94561ceb4", func := "ferryhythe/ferryhythelaw3.DrrFair", spec := "drrFair", apart := false }
def DrrFairSaid : Prop := drrFairRow.holds Try.pinned (OpenSpec.ofChange drrFairSpec)

/-- ITS FALSE NEIGHBOUR: 'it returns false'. Refute it at one input. -/
def drrFairWrong : ChangeSpec := { name := "drrFair", fn := fun _ => fun
  | [d1, d2, d3, d4] => { results := [.lit (.bool false)], args := [d1, d2, d3, d4] }
  | _ => none }
def DrrFairWrongFalsely : Prop := drrFairRow.holds Try.pinned (OpenSpec.ofChange drrFairWrong)

/-- 'ferryhythelaw3.DrrSoon': WHATEVER THE INPUT: true; the input reads as it did. -/
def drrSoonSpec : ChangeSpec := { name := "drrSoon", fn := fun _ => fun
  | [d1, d2, d3] => { results := [.lit (.bool true)], args := [d1, d2, d3] }
  | _ => none }
def drrSoonRow : OpenClaim := { program := "ytommedhaaojgiaa", sum := "09558d7193fe4fd031ffcd358abae0e8efe30da680602e6d0baa3bd94561ceb4", func := "ferryhythe/ferryhythelaw3.DrrSoon", spec := "drrSoon", apart := false }
def DrrSoonSaid : Prop := drrSoonRow.holds Try.pinned (OpenSpec.ofChange drrSoonSpec)

/-- ITS FALSE NEIGHBOUR: 'it returns false'. Refute it at one input. -/
def drrSoonWrong : ChangeSpec := { name := "drrSoon", fn := fun _ => fun
  | [d1, d2, d3] => { results := [.lit (.bool false)], args := [d1, d2, d3] }
  | _ => none }
def DrrSoonWrongFalsely : Prop := drrSoonRow.holds Try.pinned (OpenSpec.ofChange drrSoonWrong)

/-- 'ferryhythelaw4.RingFair': WHATEVER THE INPUT: true; the input reads as it did. -/
def ringFairSpec : ChangeSpec := { name := "ringFair", fn := fun _ => fun
  | [d1, d2] => { results := [.lit (.bool true)], args := [d1, d2] }
  | _ => none }
def ringFairRow : OpenClaim := { program := "ytommedhaaojgiaa", sum := "09558d7193fe4fd031ffcd358abae0e8efe30da680602e6d0baa3bd94561ceb4", func := "ferryhythe/ferryhythelaw4.RingFair", spec := "ringFair", apart := false }
def RingFairSaid : Prop := ringFairRow.holds Try.pinned (OpenSpec.ofChange ringFairSpec)

/-- ITS FALSE NEIGHBOUR: 'it returns false'. Refute it at one input. -/
def ringFairWrong : ChangeSpec := { name := "ringFair", fn := fun _ => fun
  | [d1, d2] => { results := [.lit (.bool false)], args := [d1, d2] }
  | _ => none }
def RingFairWrongFalsely : Prop := ringFairRow.holds Try.pinned (OpenSpec.ofChange ringFairWrong)

/-- 'ferryhythelaw4.RingTurns': WHATEVER THE INPUT: true; the input reads as it did. -/
def ringTurnsSpec : ChangeSpec := { name := "ringTurns", fn := fun _ => fun
  | [d1, d2] => { results := [.lit (.bool true)], args := [d1, d2] }
  | _ => none }
def ringTurnsRow : OpenClaim := { program := "ytommedhaaojgiaa", sum := "09558d7193fe4fd031ffcd358abae0e8efe30da680602e6d0baa3bd94561ceb4", func := "ferryhythe/ferryhythelaw4.RingTurns", spec := "ringTurns", apart := false }
def RingTurnsSaid : Prop := ringTurnsRow.holds Try.pinned (OpenSpec.ofChange ringTurnsSpec)

/-- ITS FALSE NEIGHBOUR: 'it returns false'. Refute it at one input. -/
def ringTurnsWrong : ChangeSpec := { name := "ringTurns", fn := fun _ => fun
  | [d1, d2] => { results := [.lit (.bool false)], args := [d1, d2] }
  | _ => none }
def RingTurnsWrongFalsely : Prop := ringTurnsRow.holds Try.pinned (OpenSpec.ofChange ringTurnsWrong)

/-- 'ferryhythelaw4.RingHold': WHATEVER THE INPUT: true; the input reads as it did. -/
def ringHoldSpec : ChangeSpec := { name := "ringHold", fn := fun _ => fun
  | [d1, d2] => { results := [.lit (.bool true)], args := [d1, d2] }
  | _ => none }
def ringHoldRow : OpenClaim := { program := "ytommedhaaojgiaa", sum := "09558d7193fe4fd031ffcd358abae0e8efe30da680602e6d0baa3bd94561ceb4", func := "ferryhythe/ferryhythelaw4.RingHold", spec := "ringHold", apart := false }
def RingHoldSaid : Prop := ringHoldRow.holds Try.pinned (OpenSpec.ofChange ringHoldSpec)

/-- ITS FALSE NEIGHBOUR: 'it returns false'. Refute it at one input. -/
def ringHoldWrong : ChangeSpec := { name := "ringHold", fn := fun _ => fun
  | [d1, d2] => { results := [.lit (.bool false)], args := [d1, d2] }
  | _ => none }
def RingHoldWrongFalsely : Prop := ringHoldRow.holds Try.pinned (OpenSpec.ofChange ringHoldWrong)

/- THE SECOND FORM. 'bulk': how many values and letters a reading holds, each counted each time it is reached (what is shared counts as often as it is met; a slice's spare places count too). A statement '..UptoSaid' is the law's where the arguments, and the package variables that the reading takes, are together of bulk at most 1048576: NARROWER than '..Said'. Prove '..Said' where nothing that the law and all that it calls make is longer than what came in: it says more and counts as full. Else prove '..UptoSaid'. A law counts once. -/
mutual
def uptoBulk {H : Type} : DataW H → Nat
  | .lit (.string bytes) => bytes.length + 1
  | .lit _ => 1
  | .nil => 1
  | .ptr d => uptoBulk d + 1
  | .slice elems spare => uptoBulkAll elems + uptoBulkAll spare + 1
  | .agg parts => uptoBulkAll parts + 1
  | .iface _ d => uptoBulk d + 1
  | .map entries => uptoBulkEntries entries + 1
  | .held _ => 1
def uptoBulkAll {H : Type} : List (DataW H) → Nat
  | [] => 0
  | d :: r => uptoBulk d + uptoBulkAll r
def uptoBulkEntries {H : Type} : List (Lit × DataW H) → Nat
  | [] => 0
  | x :: r => uptoBulkEntry x + uptoBulkEntries r
def uptoBulkEntry {H : Type} : Lit × DataW H → Nat
  | (.string bytes, d) => bytes.length + uptoBulk d + 1
  | (_, d) => uptoBulk d + 1
 end
def uptoSmall : (H : Type) → List (DataW H) → Bool := fun _ ds => decide (uptoBulkAll ds ≤ 1048576)
def OpenSpec.upto (s : _root_.Go.ChangeSpec) : _root_.Go.OpenSpec := { _root_.Go.OpenSpec.ofChange s with cond := some uptoSmall }

/-- 'ferryhythelaw3.LearnAnswer', WHERE WHAT IT READS IS OF BULK AT MOST 1048576: true; the input reads as it did. -/
def learnAnswerUptoRow : OpenClaim := { program := "ytommedhaaojgiaa", sum := "09558d7193fe4fd031ffcd358abae0e8efe30da680602e6d0baa3bd94561ceb4", func := "ferryhythe/ferryhythelaw3.LearnAnswer", spec := "learnAnswer", apart := false, narrowed := true }
def LearnAnswerUptoSaid : Prop := learnAnswerUptoRow.holds Try.pinned (OpenSpec.upto learnAnswerSpec)

/-- 'ferryhythelaw3.LearnFlood', WHERE WHAT IT READS IS OF BULK AT MOST 1048576: true; the input reads as it did. -/
def learnFloodUptoRow : OpenClaim := { program := "ytommedhaaojgiaa", sum := "09558d7193fe4fd031ffcd358abae0e8efe30da680602e6d0baa3bd94561ceb4", func := "ferryhythe/ferryhythelaw3.LearnFlood", spec := "learnFlood", apart := false, narrowed := true }
def LearnFloodUptoSaid : Prop := learnFloodUptoRow.holds Try.pinned (OpenSpec.upto learnFloodSpec)

/-- 'ferryhythelaw3.LearnDown', WHERE WHAT IT READS IS OF BULK AT MOST 1048576: true; the input reads as it did. -/
def learnDownUptoRow : OpenClaim := { program := "ytommedhaaojgiaa", sum := "09558d7193fe4fd031ffcd358abae0e8efe30da680602e6d0baa3bd94561ceb4", func := "ferryhythe/ferryhythelaw3.LearnDown", spec := "learnDown", apart := false, narrowed := true }
def LearnDownUptoSaid : Prop := learnDownUptoRow.holds Try.pinned (OpenSpec.upto learnDownSpec)

/-- 'ferryhythelaw3.DrrOnce', WHERE WHAT IT READS IS OF BULK AT MOST 1048576: true; the input reads as it did. -/
def drrOnceUptoRow : OpenClaim := { program := "ytommedhaaojgiaa", sum := "09558d7193fe4fd031ffcd358abae0e8efe30da680602e6d0baa3bd94561ceb4", func := "ferryhythe/ferryhythelaw3.DrrOnce", spec := "drrOnce", apart := false, narrowed := true }
def DrrOnceUptoSaid : Prop := drrOnceUptoRow.holds Try.pinned (OpenSpec.upto drrOnceSpec)

/-- 'ferryhythelaw3.DrrFair', WHERE WHAT IT READS IS OF BULK AT MOST 1048576: true; the input reads as it did. -/
def drrFairUptoRow : OpenClaim := { program := "ytommedhaaojgiaa", sum := "09558d7193fe4fd031ffcd358abae0e8efe30da680602e6d0baa3bd94561ceb4", func := "ferryhythe/ferryhythelaw3.DrrFair", spec := "drrFair", apart := false, narrowed := true }
def DrrFairUptoSaid : Prop := drrFairUptoRow.holds Try.pinned (OpenSpec.upto drrFairSpec)

/-- 'ferryhythelaw3.DrrSoon', WHERE WHAT IT READS IS OF BULK AT MOST 1048576: true; the input reads as it did. -/
def drrSoonUptoRow : OpenClaim := { program := "ytommedhaaojgiaa", sum := "09558d7193fe4fd031ffcd358abae0e8efe30da680602e6d0baa3bd94561ceb4", func := "ferryhythe/ferryhythelaw3.DrrSoon", spec := "drrSoon", apart := false, narrowed := true }
def DrrSoonUptoSaid : Prop := drrSoonUptoRow.holds Try.pinned (OpenSpec.upto drrSoonSpec)

/-- 'ferryhythelaw4.RingFair', WHERE WHAT IT READS IS OF BULK AT MOST 1048576: true; the input reads as it did. -/
def ringFairUptoRow : OpenClaim := { program := "ytommedhaaojgiaa", sum := "09558d7193fe4fd031ffcd358abae0e8efe30da680602e6d0baa3bd94561ceb4", func := "ferryhythe/ferryhythelaw4.RingFair", spec := "ringFair", apart := false, narrowed := true }
def RingFairUptoSaid : Prop := ringFairUptoRow.holds Try.pinned (OpenSpec.upto ringFairSpec)

/-- 'ferryhythelaw4.RingTurns', WHERE WHAT IT READS IS OF BULK AT MOST 1048576: true; the input reads as it did. -/
def ringTurnsUptoRow : OpenClaim := { program := "ytommedhaaojgiaa", sum := "09558d7193fe4fd031ffcd358abae0e8efe30da680602e6d0baa3bd94561ceb4", func := "ferryhythe/ferryhythelaw4.RingTurns", spec := "ringTurns", apart := false, narrowed := true }
def RingTurnsUptoSaid : Prop := ringTurnsUptoRow.holds Try.pinned (OpenSpec.upto ringTurnsSpec)

/-- 'ferryhythelaw4.RingHold', WHERE WHAT IT READS IS OF BULK AT MOST 1048576: true; the input reads as it did. -/
def ringHoldUptoRow : OpenClaim := { program := "ytommedhaaojgiaa", sum := "09558d7193fe4fd031ffcd358abae0e8efe30da680602e6d0baa3bd94561ceb4", func := "ferryhythe/ferryhythelaw4.RingHold", spec := "ringHold", apart := false, narrowed := true }
def RingHoldUptoSaid : Prop := ringHoldUptoRow.holds Try.pinned (OpenSpec.upto ringHoldSpec)

end Rows
end Go.Proofs.Ytommedhaaojgiaa
