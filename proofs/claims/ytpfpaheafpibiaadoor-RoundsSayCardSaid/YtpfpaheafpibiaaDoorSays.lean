/- What ferryhythesame.Error says of one error, told by its number. -/
import Derived.Test.YtpfpaheafpibiaaDoorTold
namespace Go.Proofs.YtpfpaheafpibiaaDoor
open Go.RowKit
set_option linter.unusedVariables false

def SaysC (g : Nat) (w : World) (c : Int) : Prop :=
  ∀ w', Below g w w' → Calls Tryd.prog 8 #[.iface 43 (.int .i64 c), .int .i64 c] w' fun x w'' => x = .returned (.bool true) ∧ Below w'.heap.size w' w''
def Says0 (g : Nat) (w : World) : Prop :=
  ∀ w', Below g w w' → Calls Tryd.prog 8 #[.nilIface, .int .i64 0] w' fun x w'' => x = .returned (.bool true) ∧ Below w'.heap.size w' w''
theorem saysC (c : Int) (hc : c ≠ 0) (w : World) (hdoor : Door w) : SaysC w.heap.size w c := fun w' h => by
  have := same_any c c true w' (hdoor.below h hdoor.pos) (by simp)
  rw [errV_not hc] at this
  exact this
theorem says0 (w : World) (hdoor : Door w) : Says0 w.heap.size w := fun w' h => by
  have := same_any 0 0 true w' (hdoor.below h hdoor.pos) rfl
  rw [errV_zero] at this
  exact this
end Go.Proofs.YtpfpaheafpibiaaDoor
