/- How a slice of slices of ints lies in memory. -/
import Derived.Test.YtommedhaaojgiaaRows
import Derived.Test.YtommedhaaojgiaaBase
namespace Go.Proofs.Ytommedhaaojgiaa
open Go.RowKit

/-- A step as it lies in memory. -/
abbrev Stp := Option Addr × Nat × List Int
def stpC (r : Stp) : List Value := [.slice r.1 r.2.2.length r.2.1]
def StpsOk (B : Nat) (w : World) (rs : List Stp) : Prop := ∀ r ∈ rs, IntSl B w r.1 r.2.2 ∧ r.2.2.length ≤ r.2.1 ∧ r.2.1 ≤ maxLen
theorem StpsOk.below {B : Nat} {w w' : World} {rs : List Stp} (h : StpsOk B w rs) (hk : Below B w w') : StpsOk B w' rs := fun r hr => ⟨(h r hr).1.below hk, (h r hr).2⟩

end Go.Proofs.Ytommedhaaojgiaa
