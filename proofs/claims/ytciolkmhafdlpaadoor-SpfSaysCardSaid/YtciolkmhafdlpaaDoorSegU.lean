/- Plain: the way over first hops is one. -/
import Derived.Test.YtciolkmhafdlpaaDoorSeg
import Derived.Test.YtciolkmhafdlpaaDoorHop
namespace Go.Proofs.YtciolkmhafdlpaaDoor
set_option linter.unusedVariables false

theorem seg_next {n : Nat} {E : List Edge} {t s : Nat} {l l' : List Nat} (h : Seg n E t s l t) (g : Seg n E t s l' t) {i a b : Nat} (ha : (l ++ [t])[i]? = some a) (hb : (l ++ [t])[i + 1]? = some b) (ga : (l' ++ [t])[i]? = some a) : (l' ++ [t])[i + 1]? = some b := by
  obtain ⟨h1, h2, h3⟩ := h.step i a b ha hb
  have hl : i < (l' ++ [t]).length := (List.getElem?_eq_some_iff.1 ga).1
  rw [List.length_append, List.length_singleton] at hl
  by_cases e : i = l'.length
  · exfalso
    subst e
    rw [List.getElem?_append_right (Nat.le_refl _), Nat.sub_self] at ga
    simp at ga
    exact h1 ga.symm
  · have hl2 : i + 1 < (l' ++ [t]).length := by rw [List.length_append, List.length_singleton]; omega
    obtain ⟨b', hb'⟩ : ∃ b', (l' ++ [t])[i + 1]? = some b' := ⟨_, List.getElem?_eq_getElem hl2⟩
    have g3 := (g.step i a b' ga hb').2.2
    have := g3.unique h3
    have hbb : b' = b := by omega
    rw [hb', hbb]
theorem seg_uniq {n : Nat} {E : List Edge} {t s : Nat} {l l' : List Nat} (h : Seg n E t s l t) (g : Seg n E t s l' t) : l = l' := by
  have key : ∀ i : Nat, (l ++ [t])[i]? = (l' ++ [t])[i]? := by
    intro i
    induction i with
    | zero => rw [h.first, g.first]
    | succ i ih =>
      cases hb : (l ++ [t])[i + 1]? with
      | some b =>
        have hi := (List.getElem?_eq_some_iff.1 hb).1
        obtain ⟨a, ha⟩ : ∃ a, (l ++ [t])[i]? = some a := ⟨_, List.getElem?_eq_getElem (by omega)⟩
        exact (seg_next h g ha hb (ih ▸ ha)).symm
      | none =>
        cases hb' : (l' ++ [t])[i + 1]? with
        | none => rfl
        | some b =>
          have hi := (List.getElem?_eq_some_iff.1 hb').1
          obtain ⟨a, ha⟩ : ∃ a, (l' ++ [t])[i]? = some a := ⟨_, List.getElem?_eq_getElem (by omega)⟩
          have := seg_next g h ha hb' (ih ▸ ha)
          rw [hb] at this
          cases this
  exact List.append_cancel_right (List.ext_getElem? key)
end Go.Proofs.YtciolkmhafdlpaaDoor
