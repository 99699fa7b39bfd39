/- What the walk asks of an int as an element. -/
import Derived.Test.YthnlpmjfibidcaaDoorRows
import Derived.Test.YthnlpmjfibidcaaDoorBase
import Derived.OwnWalk
namespace Go.Proofs.YthnlpmjfibidcaaDoor
open Go.RowKit

theorem elemInt8 : ElemTy Tryd.prog 37 3 1 8 (.int .i64 0) :=
  ⟨Tryd.underlying37, info_parts (z := .int .i64 0) (size := 1) (bytes := 8) (by kernel_rfl), rfl, by decide⟩

end Go.Proofs.YthnlpmjfibidcaaDoor
