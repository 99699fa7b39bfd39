/- Plain: three numbers one after the other. -/
import Derived.Test.YtnmddgjgmdegoaaDoorBase
namespace Go.Proofs.YtnmddgjgmdegoaaDoor
open Go.RowKit

def cmpI (a b : Int) : Int := if a < b then -1 else if b < a then 1 else 0
def or3 (x y z : Int) : Int := if x ≠ 0 then x else if y ≠ 0 then y else z
def lessI (a b : Int × Int × Int) : Int := or3 (cmpI a.1 b.1) (cmpI a.2.1 b.2.1) (cmpI a.2.2 b.2.2)
theorem cmpI_cases (a b : Int) : (cmpI a b = -1 ∧ a < b) ∨ (cmpI a b = 1 ∧ b < a) ∨ (cmpI a b = 0 ∧ a = b) := by
  unfold cmpI
  by_cases h1 : a < b
  · rw [if_pos h1]; exact .inl ⟨rfl, h1⟩
  · rw [if_neg h1]
    by_cases h2 : b < a
    · rw [if_pos h2]; exact .inr (.inl ⟨rfl, h2⟩)
    · rw [if_neg h2]; exact .inr (.inr ⟨rfl, by omega⟩)
theorem lessI_neg {a b : Int × Int × Int} : lessI a b < 0 ↔ a.1 < b.1 ∨ (a.1 = b.1 ∧ (a.2.1 < b.2.1 ∨ (a.2.1 = b.2.1 ∧ a.2.2 < b.2.2))) := by
  unfold lessI or3
  rcases cmpI_cases a.1 b.1 with ⟨e1, h1⟩ | ⟨e1, h1⟩ | ⟨e1, h1⟩
  · rw [e1, if_pos (by decide)]; exact ⟨fun _ => .inl h1, fun _ => by decide⟩
  · rw [e1, if_pos (by decide)]; exact ⟨fun h => by omega, fun h => by omega⟩
  · rw [e1, if_neg (by decide)]
    rcases cmpI_cases a.2.1 b.2.1 with ⟨e2, h2⟩ | ⟨e2, h2⟩ | ⟨e2, h2⟩
    · rw [e2, if_pos (by decide)]; exact ⟨fun _ => .inr ⟨h1, .inl h2⟩, fun _ => by decide⟩
    · rw [e2, if_pos (by decide)]; exact ⟨fun h => by omega, fun h => by omega⟩
    · rw [e2, if_neg (by decide)]
      rcases cmpI_cases a.2.2 b.2.2 with ⟨e3, h3⟩ | ⟨e3, h3⟩ | ⟨e3, h3⟩
      · rw [e3]; exact ⟨fun _ => .inr ⟨h1, .inr ⟨h2, h3⟩⟩, fun _ => by decide⟩
      · rw [e3]; exact ⟨fun h => by omega, fun h => by omega⟩
      · rw [e3]; exact ⟨fun h => by omega, fun h => by omega⟩
end Go.Proofs.YtnmddgjgmdegoaaDoor
