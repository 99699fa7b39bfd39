/- What the walk asks of an int as an element. -/
import Derived.Test.YtbcfcjecobihnaaRows
import Derived.Test.YtbcfcjecobihnaaBase
import Derived.OwnWalk
namespace Go.Proofs.Ytbcfcjecobihnaa
open Go.RowKit

theorem elemInt8 : ElemTy Try.prog 28 3 1 8 (.int .i64 0) :=
  ⟨Try.underlying28, info_parts (z := .int .i64 0) (size := 1) (bytes := 8) (by kernel_rfl), rfl, by decide⟩

end Go.Proofs.Ytbcfcjecobihnaa
