/- Rows of numbers, and of bools, told by a function. -/
import Derived.Test.YtfnfelmaidfppaaDoorRows
import Derived.Test.YtfnfelmaidfppaaDoorBase
import Derived.Test.YtfnfelmaidfppaaDoorMaxPlain
import Derived.OwnWalk
namespace Go.Proofs.YtfnfelmaidfppaaDoor
open Go.RowKit
set_option linter.unusedVariables false

theorem elemB : ElemTy Tryd.prog 38 4 1 1 (.bool false) := ⟨Tryd.underlying38, info_parts (by kernel_rfl), rfl, by decide⟩

section
variable {B : Nat} {w : World} {A C : List Ent}
/-- A row of numbers by a function. -/
theorem arrI_at {e : TypeId} {ao : Option Addr} {n cap k : Nat} {f : Nat → Int} (h : Sep B w (A ++ Ent.ints e (.slice ao n cap) (arr f n) :: C)) (hk : k < n) :
    ∃ g' off, ao = some ⟨g', off, none⟩ ∧ B ≤ g' ∧ w.cell? ⟨g', off + k, none⟩ = some (.int .i64 (f k)) ∧ w.frozen? ⟨g', off + k, none⟩ = false ∧
      ∀ y, Sep B (w.setCell ⟨g', off + k, none⟩ (.int .i64 y)) (A ++ Ent.ints e (.slice ao n cap) (arr (fun i => if i = k then y else f i) n) :: C) := by
  have h1 : Sep B w (A ++ Ent.ints e (.slice ao (arr f n).length cap) (arr f n) :: C) := by rw [arr_len]; exact h
  obtain ⟨g', off, rfl, d1, d2⟩ := h1.intsAt (arr_get hk)
  refine ⟨g', off, rfl, (h1.mem.2 g' rfl).1, d1, d2, fun y => ?_⟩
  have h2 := h1.intsSet k y
  rw [arr_len, arr_set] at h2
  exact h2
/-- A row of bools by a function. -/
theorem arrB_at {e : TypeId} {g' n cap k : Nat} {f : Nat → Bool} (h : Sep B w (A ++ Ent.row (.slice (some ⟨g', 0, none⟩) n cap) n 1 e (arr (fun i => .bool (f i)) n) :: C)) (hk : k < n) :
    w.cell? ⟨g', k, none⟩ = some (.bool (f k)) ∧ w.frozen? ⟨g', k, none⟩ = false ∧
      ∀ b, Sep B (w.setCell ⟨g', k, none⟩ (.bool b)) (A ++ Ent.row (.slice (some ⟨g', 0, none⟩) n cap) n 1 e (arr (fun i => .bool (if i = k then b else f i)) n) :: C) := by
  obtain ⟨g2, off, he, _, d1, d2⟩ := Sep.rowAt h (by omega)
  simp only [Option.some.injEq, Addr.mk.injEq, and_true] at he
  obtain ⟨rfl, rfl⟩ := he
  have d3 := d1 k (by omega)
  rw [arr_get hk, Nat.zero_add] at d3
  refine ⟨d3, d2 _, fun b => ?_⟩
  have h2 := Sep.rowSet h k (.bool b)
  rw [arr_set, Nat.zero_add] at h2
  rw [show (fun i => Value.bool (if i = k then b else f i)) = (fun i => if i = k then Value.bool b else .bool (f i)) by funext i; split <;> rfl]
  exact h2
end

end Go.Proofs.YtfnfelmaidfppaaDoor
