/- What the walk asks of an int as an element. -/
import Derived.Test.YtfnfelmaidfppaaDoorRows
import Derived.Test.YtfnfelmaidfppaaDoorBase
import Derived.OwnWalk
namespace Go.Proofs.YtfnfelmaidfppaaDoor
open Go.RowKit

theorem elemInt8 : ElemTy Tryd.prog 22 3 1 8 (.int .i64 0) :=
  ⟨Tryd.underlying22, info_parts (z := .int .i64 0) (size := 1) (bytes := 8) (by kernel_rfl), rfl, by decide⟩

end Go.Proofs.YtfnfelmaidfppaaDoor
