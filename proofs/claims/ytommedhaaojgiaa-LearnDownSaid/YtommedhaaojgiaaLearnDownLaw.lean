/- What a switch that learns answers, in plain Lean: a port that goes down. -/
import Derived.Test.YtommedhaaojgiaaLearnLaw
namespace Go.Proofs.Ytommedhaaojgiaa
open Go.RowKit
set_option linter.unusedVariables false

theorem look_nil (a : Int) : look [] a = -1 := rfl
theorem look_cons (x : Int × Int) (r : Tab) (a : Int) : look (x :: r) a = if x.1 = a then x.2 else look r a := by
  have ht : tfind (x :: r) a = if x.1 = a then some 0 else (tfind r a).map (· + 1) := rfl
  unfold look
  rw [ht]
  by_cases h : x.1 = a
  · rw [if_pos h, if_pos h]; rfl
  · rw [if_neg h, if_neg h]
    cases tfind r a with
    | none => rfl
    | some k => simp
/-- Of the addresses below m those that are known at the port. -/
def manyTo (T : Tab) (p : Int) : Nat → Nat
  | 0 => 0
  | m + 1 => manyTo T p m + (if look T (m : Int) = p then 1 else 0)
theorem manyTo_nil {p : Int} (hp : 0 ≤ p) : ∀ m, manyTo [] p m = 0
  | 0 => rfl
  | m + 1 => by
    unfold manyTo
    rw [manyTo_nil hp m, look_nil, if_neg (by omega)]
theorem manyTo_cons (x : Int × Int) (r : Tab) (p : Int) : ∀ m, manyTo (x :: r) p m ≤ manyTo r p m + (if x.2 = p ∧ 0 ≤ x.1 ∧ x.1 < (m : Int) then 1 else 0)
  | 0 => by unfold manyTo; omega
  | m + 1 => by
    have ih := manyTo_cons x r p m
    unfold manyTo
    rw [look_cons]
    by_cases h : x.1 = (m : Int)
    · rw [if_pos h]
      rw [if_neg (show ¬ (x.2 = p ∧ 0 ≤ x.1 ∧ x.1 < (m : Int)) by omega)] at ih
      by_cases hp : x.2 = p
      · rw [if_pos hp, if_pos (show x.2 = p ∧ 0 ≤ x.1 ∧ x.1 < ((m + 1 : Nat) : Int) by omega)]
        split <;> omega
      · rw [if_neg hp, if_neg (show ¬ (x.2 = p ∧ 0 ≤ x.1 ∧ x.1 < ((m + 1 : Nat) : Int)) by omega)]
        split <;> omega
    · rw [if_neg h]
      by_cases hp : x.2 = p ∧ 0 ≤ x.1 ∧ x.1 < (m : Int)
      · rw [if_pos hp] at ih
        rw [if_pos (show x.2 = p ∧ 0 ≤ x.1 ∧ x.1 < ((m + 1 : Nat) : Int) by omega)]
        omega
      · rw [if_neg hp] at ih
        rw [if_neg (show ¬ (x.2 = p ∧ 0 ≤ x.1 ∧ x.1 < ((m + 1 : Nat) : Int)) by omega)]
        omega
theorem manyTo_le {p : Int} (hp : 0 ≤ p) : ∀ (T : Tab) (m : Nat), manyTo T p m + (downT T p).length ≤ T.length
  | [], m => by rw [manyTo_nil hp]; simp [downT]
  | x :: r, m => by
    have ih := manyTo_le hp r m
    have h := manyTo_cons x r p m
    unfold downT at ih ⊢
    by_cases hx : x.2 = p
    · rw [List.filter_cons_of_neg (by simp [hx])]
      simp only [List.length_cons]
      split at h <;> omega
    · rw [List.filter_cons_of_pos (by simp [hx])]
      rw [if_neg (by omega)] at h
      simp only [List.length_cons]
      omega
theorem look_known {T : Tab} {a : Int} (h : look T a ≠ -1) : ∃ k, tfind T a = some k ∧ (a, look T a) ∈ T := by
  cases hf : tfind T a with
  | none => exact absurd (by unfold look; rw [hf]) h
  | some k =>
    obtain ⟨p, h1, h2, _⟩ := tfind_some hf
    exact ⟨k, rfl, by rw [h2]; exact List.mem_iff_getElem?.2 ⟨k, h1⟩⟩
theorem look_unknown {T : Tab} {a : Int} (hg : Good T) (h : look T a = -1) : ∀ x ∈ T, x.1 ≠ a := by
  rw [← tfind_none]
  cases hf : tfind T a with
  | none => rfl
  | some k =>
    obtain ⟨p, h1, h2, _⟩ := tfind_some hf
    have := (hg.bd _ (List.mem_iff_getElem?.2 ⟨k, h1⟩)).2.1
    rw [h] at h2
    simp only at this
    omega
/-- Who was known at the port is forgotten. -/
theorem down_gone {T : Tab} {a p : Int} (hg : Good T) (h : look T a = p) : ∀ x ∈ downT T p, x.1 ≠ a := by
  intro x hx e
  obtain ⟨hm, hne⟩ := List.mem_filter.1 hx
  have : look T a = x.2 := (mem_look hg.nd (by rw [← e]; exact hm)).1
  simp at hne
  exact hne (by rw [← this, h])
/-- .. and who was not stays as he was. -/
theorem down_stays {T : Tab} {a p : Int} (hg : Good T) (h : look T a ≠ p) : look (downT T p) a = look T a := by
  by_cases hk : look T a = -1
  · have hn := look_unknown hg hk
    have : tfind (downT T p) a = none := tfind_none.2 fun x hx => hn x (List.mem_filter.1 hx).1
    rw [hk]
    unfold look
    rw [this]
  · obtain ⟨k, _, hm⟩ := look_known hk
    exact (mem_look (hg.down p).nd (List.mem_filter.2 ⟨hm, by simp [h]⟩)).1
end Go.Proofs.Ytommedhaaojgiaa
