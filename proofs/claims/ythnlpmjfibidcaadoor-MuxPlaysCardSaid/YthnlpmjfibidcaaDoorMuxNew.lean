/- mux.New: fresh ends. -/
import Derived.Test.YthnlpmjfibidcaaDoorRows
import Derived.Test.YthnlpmjfibidcaaDoorBase
import Derived.Test.YthnlpmjfibidcaaDoorMuxPlain
namespace Go.Proofs.YthnlpmjfibidcaaDoor
open Go.RowKit

def zeroMux : Array Value := ((List.replicate 4 Str.new).flatMap strCells).toArray

theorem zeroMux_is : (Tryd.prog.info? 63).map (fun i => i.zero) = some (some (.agg zeroMux)) := by kernel_rfl

theorem run_zeroMux (w : World) : (zeroValue 63).run Tryd.prog w = .ok (.agg zeroMux) w := by
  have h := zeroMux_is
  unfold zeroValue typeInfo
  cases hq : Tryd.prog.info? 63 with
  | none => simp [hq] at h
  | some i => simp [hq] at h; simp [hq, h]

attribute [irreducible] zeroMux

set_option maxHeartbeats 400000 in
theorem muxNew_any (w : World) : Calls Tryd.prog 7 #[] w fun e w' => ∃ g, e = .returned (.pointer (some ⟨g, 0, none⟩)) ∧ Sep w.heap.size w' [Ent.mux 63 g (List.replicate 4 Str.new)] ∧ Below w.heap.size w w' := by
  have hz := run_zeroMux
  have hs := Lib.hid ((Sep.nil w.heap.size w).blkNew (Nat.le_refl _) zeroMux 63)
  go_enter Tryd.func7, Tryd.ntmps7
  go_wp2
  go_ret
  refine ⟨_, rfl, ?_, below_alloc _ _⟩
  have e : zeroMux.toList = (List.replicate 4 Str.new).flatMap strCells := by unfold zeroMux; rfl
  unfold Ent.mux
  rw [← e]
  exact hs.out
end Go.Proofs.YthnlpmjfibidcaaDoor
