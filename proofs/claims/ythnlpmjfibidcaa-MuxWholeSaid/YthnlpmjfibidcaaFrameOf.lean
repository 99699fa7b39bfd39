/- frameOf: a frame of three things. -/
import Derived.Test.YthnlpmjfibidcaaRows
import Derived.Test.YthnlpmjfibidcaaBase
namespace Go.Proofs.Ythnlpmjfibidcaa
open Go.RowKit

set_option maxHeartbeats 400000 in
theorem frameOf_any (i p : Int) (s : ByteArray) (w : World) : Calls Try.prog 13 #[.int .i64 i, .int .i64 p, .string s] w fun e w' =>
    e = .returned (.agg #[.int .i64 i, .int .i64 p, .string s]) ∧ Below w.heap.size w w' := by
  go_enter Try.func13, Try.ntmps13
  go_wp2
  refine bodyPost_ret (v := .agg #[.int .i64 i, .int .i64 p, .string s]) (by simp [results, Try.results13, go_sem]) rfl ⟨rfl, below_alloc _ _⟩
end Go.Proofs.Ythnlpmjfibidcaa
