/- Sums of parts of a list. -/
import Derived.Test.YtnmddgjgmdegoaaRows
namespace Go.Proofs.Ytnmddgjgmdegoaa
set_option linter.unusedVariables false

theorem sum_take_succ {xs : List Int} {k : Nat} {x : Int} (h : xs[k]? = some x) : (xs.take (k + 1)).sum = (xs.take k).sum + x := by
  rw [List.take_add_one, h]; simp
theorem sum_take_bd {b : Int} {xs : List Int} (h : ∀ x ∈ xs, 0 ≤ x ∧ x ≤ b) : ∀ k, k ≤ xs.length → 0 ≤ (xs.take k).sum ∧ (xs.take k).sum ≤ k * b
  | 0, _ => by simp
  | k + 1, hk => by
    obtain ⟨x, hx⟩ : ∃ x, xs[k]? = some x := ⟨_, List.getElem?_eq_getElem (by omega)⟩
    have := h x (List.mem_iff_getElem?.2 ⟨k, hx⟩)
    have := sum_take_bd h k (by omega)
    rw [sum_take_succ hx, show ((k + 1 : Nat) : Int) = (k : Int) + 1 by omega, Int.add_mul]
    omega

end Go.Proofs.Ytnmddgjgmdegoaa
