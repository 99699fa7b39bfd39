/- What a switch that learns answers, in plain Lean: a table of addresses and their ports; who was heard last stands last. -/
import Derived.Test.YtommedhaaojgiaaDoorBase
namespace Go.Proofs.YtommedhaaojgiaaDoor
open Go.RowKit

abbrev Tab := List (Int × Int)
def entC (x : Int × Int) : List Value := [.int .i64 x.1, .int .i64 x.2]
def tfind : Tab → Int → Option Nat
  | [], _ => none
  | x :: r, a => if x.1 = a then some 0 else (tfind r a).map (· + 1)
def idx : Option Nat → Int
  | none => -1
  | some k => (k : Int)
def look (T : Tab) (a : Int) : Int := match tfind T a with
  | none => -1
  | some k => (T.getD k (0, 0)).2
def gone (T : Tab) (a : Int) : Tab := match tfind T a with
  | none => T
  | some k => T.take k ++ T.drop (k + 1)
def heardT (T : Tab) (a p : Int) : Tab := if 8 < (gone T a ++ [(a, p)]).length then (gone T a ++ [(a, p)]).drop 1 else gone T a ++ [(a, p)]
def outs (T : Tab) (a p : Int) : List Int := match tfind T a with
  | none => [0, 1, 2, 3].filter fun x => !decide (x = p)
  | some _ => if look T a = p then [] else [look T a]

theorem tfind_some {T : Tab} {a : Int} {k : Nat} (h : tfind T a = some k) : ∃ p, T[k]? = some (a, p) ∧ look T a = p ∧ ∀ j x, j < k → T[j]? = some x → x.1 ≠ a := by
  have main : ∀ (T : Tab) (k : Nat), tfind T a = some k → ∃ p, T[k]? = some (a, p) ∧ ∀ j x, j < k → T[j]? = some x → x.1 ≠ a := by
    intro T
    induction T with
    | nil => intro k h; cases h
    | cons x r ih =>
      intro k h
      unfold tfind at h
      split at h
      · rename_i hx
        cases h
        refine ⟨x.2, by simp [← hx], fun j x hj => by omega⟩
      · rename_i hx
        cases hr : tfind r a with
        | none => rw [hr] at h; cases h
        | some i =>
          rw [hr] at h
          have hk : i + 1 = k := by simpa using h
          subst hk
          obtain ⟨p, h1, h2⟩ := ih i hr
          refine ⟨p, by simpa using h1, fun j y hj hy => ?_⟩
          match j, hy with
          | 0, hy => simp at hy; rw [← hy]; exact hx
          | j + 1, hy => exact h2 j y (by omega) (by simpa using hy)
  obtain ⟨p, h1, h2⟩ := main T k h
  refine ⟨p, h1, ?_, h2⟩
  unfold look
  rw [h]
  simp [h1]
theorem tfind_none {T : Tab} {a : Int} : tfind T a = none ↔ ∀ x ∈ T, x.1 ≠ a := by
  induction T with
  | nil => simp [tfind]
  | cons x r ih =>
    unfold tfind
    by_cases hx : x.1 = a
    · rw [if_pos hx]; simp [hx]
    · rw [if_neg hx]; simp [ih, hx]
theorem tfind_lt {T : Tab} {a : Int} {k : Nat} (h : tfind T a = some k) : k < T.length := by
  obtain ⟨p, h1, _⟩ := tfind_some h
  exact (List.getElem?_eq_some_iff.1 h1).1
/-- Found by search: the first place. -/
theorem tfind_at {T : Tab} {a : Int} {k : Nat} {x : Int × Int} (hn : tfind (T.take k) a = none) (hx : T[k]? = some x) (he : x.1 = a) : tfind T a = some k := by
  induction T generalizing k with
  | nil => simp at hx
  | cons y r ih =>
    match k, hn, hx with
    | 0, _, hx => simp at hx; subst hx; simp [tfind, he]
    | k + 1, hn, hx =>
      simp only [List.take_succ_cons] at hn
      unfold tfind at hn ⊢
      split at hn
      · cases hn
      · rename_i hy
        rw [if_neg hy, ih (k := k) (by simpa using hn) (by simpa using hx)]
        rfl
theorem tfind_next {T : Tab} {a : Int} {k : Nat} {x : Int × Int} (hn : tfind (T.take k) a = none) (hx : T[k]? = some x) (he : ¬ x.1 = a) : tfind (T.take (k + 1)) a = none := by
  rw [tfind_none] at hn ⊢
  intro y hy
  rw [List.take_add_one, hx] at hy
  rcases List.mem_append.1 hy with h | h
  · exact hn y h
  · simp at h; rw [h]; exact he
end Go.Proofs.YtommedhaaojgiaaDoor
