/- What the walk asks of an int as an element. -/
import Derived.Test.YtpfpaheafpibiaaDoorRows
import Derived.Test.YtpfpaheafpibiaaDoorBase
import Derived.OwnWalk
namespace Go.Proofs.YtpfpaheafpibiaaDoor
open Go.RowKit

theorem elemInt8 : ElemTy Tryd.prog 24 3 1 8 (.int .i64 0) :=
  ⟨Tryd.underlying24, info_parts (z := .int .i64 0) (size := 1) (bytes := 8) (by kernel_rfl), rfl, by decide⟩

end Go.Proofs.YtpfpaheafpibiaaDoor
