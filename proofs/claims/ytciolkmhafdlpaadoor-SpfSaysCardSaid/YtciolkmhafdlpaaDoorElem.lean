/- What the walk asks of an int as an element. -/
import Derived.Test.YtciolkmhafdlpaaDoorRows
import Derived.Test.YtciolkmhafdlpaaDoorBase
import Derived.OwnWalk
namespace Go.Proofs.YtciolkmhafdlpaaDoor
open Go.RowKit

theorem elemInt8 : ElemTy Tryd.prog 22 3 1 8 (.int .i64 0) :=
  ⟨Tryd.underlying22, info_parts (z := .int .i64 0) (size := 1) (bytes := 8) (by kernel_rfl), rfl, by decide⟩

end Go.Proofs.YtciolkmhafdlpaaDoor
