/- '[2][2]int' indexed by value. -/
import Derived.Test.YtnmddgjgmdegoaaDoorRows
import Derived.Test.YtnmddgjgmdegoaaDoorBase
import Derived.ChangeKeysEq
namespace Go.Proofs.YtnmddgjgmdegoaaDoor
open Go.RowKit

theorem idx2_run (a b c d : Int) (w : World) :
    (Instr.index 97 (.agg #[.int .i64 a, .int .i64 b, .int .i64 c, .int .i64 d]) (.int .i64 0)).run Tryd.prog w = .ok (.agg #[.int .i64 a, .int .i64 b]) w ∧
    (Instr.index 97 (.agg #[.int .i64 a, .int .i64 b, .int .i64 c, .int .i64 d]) (.int .i64 1)).run Tryd.prog w = .ok (.agg #[.int .i64 c, .int .i64 d]) w := by
  have hu : Tryd.prog.underlying 97 = some (.array 2 96) := by kernel_rfl
  have hu2 : Tryd.prog.underlying 96 = some (.array 2 3) := by kernel_rfl
  obtain ⟨i, hi, hs⟩ : ∃ i, Tryd.prog.info? 96 = some i ∧ i.size = 2 := by
    have h : (Tryd.prog.info? 96).map (·.size) = some 2 := by kernel_rfl
    exact Option.map_eq_some_iff.1 h
  constructor
  · simp [Instr.index, run_underlying hu, run_underlying hu2, asIntOf, part, isAgg, sizeOf, typeInfo, hi, hs, Result.andThen, go_sem]
  · simp [Instr.index, run_underlying hu, run_underlying hu2, asIntOf, part, isAgg, sizeOf, typeInfo, hi, hs, Result.andThen, go_sem]
end Go.Proofs.YtnmddgjgmdegoaaDoor
