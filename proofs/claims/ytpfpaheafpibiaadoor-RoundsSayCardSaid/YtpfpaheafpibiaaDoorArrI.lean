/- Rows of numbers told by a function. -/
import Derived.Test.YtpfpaheafpibiaaDoorRows
import Derived.Test.YtpfpaheafpibiaaDoorBase
import Derived.Test.YtpfpaheafpibiaaDoorMaxPlain
import Derived.OwnWalk
namespace Go.Proofs.YtpfpaheafpibiaaDoor
open Go.RowKit
set_option linter.unusedVariables false

section
variable {B : Nat} {w : World} {A C : List Ent}
/-- A row of numbers by a function. -/
theorem arrI_at {e : TypeId} {ao : Option Addr} {n cap k : Nat} {f : Nat → Int} (h : Sep B w (A ++ Ent.ints e (.slice ao n cap) (arr f n) :: C)) (hk : k < n) :
    ∃ g' off, ao = some ⟨g', off, none⟩ ∧ B ≤ g' ∧ w.cell? ⟨g', off + k, none⟩ = some (.int .i64 (f k)) ∧ w.frozen? ⟨g', off + k, none⟩ = false ∧
      ∀ y, Sep B (w.setCell ⟨g', off + k, none⟩ (.int .i64 y)) (A ++ Ent.ints e (.slice ao n cap) (arr (fun i => if i = k then y else f i) n) :: C) := by
  have h1 : Sep B w (A ++ Ent.ints e (.slice ao (arr f n).length cap) (arr f n) :: C) := by rw [arr_len]; exact h
  obtain ⟨g', off, rfl, d1, d2⟩ := h1.intsAt (arr_get hk)
  refine ⟨g', off, rfl, (h1.mem.2 g' rfl).1, d1, d2, fun y => ?_⟩
  have h2 := h1.intsSet k y
  rw [arr_len, arr_set] at h2
  exact h2
end
end Go.Proofs.YtpfpaheafpibiaaDoor
