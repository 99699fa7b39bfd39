/- A row of ints of its own, at offset 0: what is read, what is set; a row that make gives. -/
import Derived.Test.YtpfpaheafpibiaaDoorRows
import Derived.Test.YtpfpaheafpibiaaDoorBase
namespace Go.Proofs.YtpfpaheafpibiaaDoor
open Go.RowKit
set_option linter.unusedVariables false

theorem ints_here {B : Nat} {w : World} {A C : List Ent} {e : TypeId} {g n cap : Nat} {xs : List Int} (h : Sep B w (A ++ Ent.ints e (.slice (some ⟨g, 0, none⟩) n cap) xs :: C)) (hl : xs.length = n) {j : Nat} {x : Int} (hx : xs[j]? = some x) :
    w.cell? ⟨g, j, none⟩ = some (.int .i64 x) ∧ w.frozen? ⟨g, j, none⟩ = false ∧ B ≤ g ∧ ∀ y, Sep B (w.setCell ⟨g, j, none⟩ (.int .i64 y)) (A ++ Ent.ints e (.slice (some ⟨g, 0, none⟩) n cap) (xs.set j y) :: C) := by
  subst hl
  obtain ⟨g', off, he, c1, c2⟩ := h.intsAt hx
  simp only [Option.some.injEq, Addr.mk.injEq, and_true] at he
  obtain ⟨rfl, rfl⟩ := he
  rw [Nat.zero_add] at c1 c2
  refine ⟨c1, c2, (h.mem.2 g rfl).1, fun y => ?_⟩
  have := h.intsSet j y
  rw [Nat.zero_add] at this
  exact this
theorem madeInts' (n : Nat) : (madeCells #[.int .i64 0] n).toList = (List.replicate n (0 : Int)).map (Value.int .i64) := by
  have := madeCells_flat #[.int .i64 0] n
  rw [List.map_replicate]
  simpa [List.flatten_replicate_singleton] using this
end Go.Proofs.YtpfpaheafpibiaaDoor
