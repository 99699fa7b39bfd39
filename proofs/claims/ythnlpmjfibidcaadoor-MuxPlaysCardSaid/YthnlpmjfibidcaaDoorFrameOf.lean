/- frameOf: a frame of three things. -/
import Derived.Test.YthnlpmjfibidcaaDoorRows
import Derived.Test.YthnlpmjfibidcaaDoorBase
namespace Go.Proofs.YthnlpmjfibidcaaDoor
open Go.RowKit

set_option maxHeartbeats 400000 in
theorem frameOf_any (i p : Int) (s : ByteArray) (w : World) : Calls Tryd.prog 11 #[.int .i64 i, .int .i64 p, .string s] w fun e w' =>
    e = .returned (.agg #[.int .i64 i, .int .i64 p, .string s]) ∧ Below w.heap.size w w' := by
  go_enter Tryd.func11, Tryd.ntmps11
  go_wp2
  refine bodyPost_ret (v := .agg #[.int .i64 i, .int .i64 p, .string s]) (by simp [results, Tryd.results11, go_sem]) rfl ⟨rfl, below_alloc _ _⟩
end Go.Proofs.YthnlpmjfibidcaaDoor
