/- What the walk asks of an int as an element. -/
import Derived.Test.YtommedhaaojgiaaDoorRows
import Derived.Test.YtommedhaaojgiaaDoorBase
import Derived.OwnWalk
namespace Go.Proofs.YtommedhaaojgiaaDoor
open Go.RowKit

theorem elemInt8 : ElemTy Tryd.prog 23 3 1 8 (.int .i64 0) :=
  ⟨Tryd.underlying23, info_parts (z := .int .i64 0) (size := 1) (bytes := 8) (by kernel_rfl), rfl, by decide⟩

end Go.Proofs.YtommedhaaojgiaaDoor
