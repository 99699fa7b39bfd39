/- A row of things (rounds.item, four cells each) of the call's own. -/
import Derived.Test.YtpfpaheafpibiaaDoorItemsPlain
import Derived.Test.YtpfpaheafpibiaaDoorRow2
namespace Go.Proofs.YtpfpaheafpibiaaDoor
open Go.RowKit
set_option linter.unusedVariables false

def itC (x : Itm) : List Value := [.int .i64 x.1, .int .i64 x.2.1, .int .i64 x.2.2.1, .int .i64 x.2.2.2]
def itV (x : Itm) : Value := .agg #[.int .i64 x.1, .int .i64 x.2.1, .int .i64 x.2.2.1, .int .i64 x.2.2.2]
theorem itC_len (X : List Itm) : (X.flatMap itC).length = X.length * 4 := by
  induction X with
  | nil => rfl
  | cons x X ih => rw [List.flatMap_cons, List.length_append, ih, List.length_cons]; simp [itC]; omega
theorem itC_at : ∀ (X : List Itm) (i t : Nat) (x : Itm), X[i]? = some x → t < 4 → (X.flatMap itC)[i * 4 + t]? = (itC x)[t]?
  | [], i, t, x, h, _ => by simp at h
  | y :: X, 0, t, x, h, ht => by
    simp at h; subst h
    rw [List.flatMap_cons, Nat.zero_mul, Nat.zero_add, List.getElem?_append_left (by simp [itC]; omega)]
  | y :: X, i + 1, t, x, h, ht => by
    rw [List.getElem?_cons_succ] at h
    rw [List.flatMap_cons, List.getElem?_append_right (by simp [itC]; omega)]
    rw [show (i + 1) * 4 + t - (itC y).length = i * 4 + t by simp [itC]; omega]
    exact itC_at X i t x h ht
theorem itC_set : ∀ (X : List Itm) (i : Nat) (y : Itm), i < X.length →
    ((((X.flatMap itC).set (i * 4) (.int .i64 y.1)).set (i * 4 + 1) (.int .i64 y.2.1)).set (i * 4 + 2) (.int .i64 y.2.2.1)).set (i * 4 + 3) (.int .i64 y.2.2.2) = (X.set i y).flatMap itC
  | [], i, y, h => by simp at h
  | x :: X, 0, y, _ => by simp [itC]
  | x :: X, i + 1, y, h => by
    have ih := itC_set X i y (by simpa using h)
    rw [List.set_cons_succ, List.flatMap_cons, List.flatMap_cons, ← ih]
    have hl : (itC x).length = 4 := rfl
    rw [List.set_append_right _ _ (by rw [hl]; omega), List.set_append_right _ _ (by rw [hl]; omega), List.set_append_right _ _ (by rw [hl]; omega), List.set_append_right _ _ (by rw [hl]; omega), hl]
    rw [show (i + 1) * 4 - 4 = i * 4 by omega, show (i + 1) * 4 + 1 - 4 = i * 4 + 1 by omega, show (i + 1) * 4 + 2 - 4 = i * 4 + 2 by omega, show (i + 1) * 4 + 3 - 4 = i * 4 + 3 by omega]
abbrev itE (v : Value) (X : List Itm) : Ent := Ent.row v X.length 4 42 (X.flatMap itC)
/-- The world with one thing put at a place. -/
def putIt (w : World) (g o : Nat) (y : Itm) : World := (((w.setCell ⟨g, o, none⟩ (.int .i64 y.1)).setCell ⟨g, o + 1, none⟩ (.int .i64 y.2.1)).setCell ⟨g, o + 2, none⟩ (.int .i64 y.2.2.1)).setCell ⟨g, o + 3, none⟩ (.int .i64 y.2.2.2)

section
variable {B : Nat} {w : World} {A C : List Ent} {X : List Itm} {ao : Option Addr} {cap i : Nat} {x : Itm}
theorem it_at (h : Sep B w (A ++ itE (.slice ao X.length cap) X :: C)) (hx : X[i]? = some x) : ∃ g off, ao = some ⟨g, off, none⟩ ∧ B ≤ g ∧
    (w.cell? ⟨g, off + i * 4, none⟩ = some (.int .i64 x.1) ∧ w.cell? ⟨g, off + i * 4 + 1, none⟩ = some (.int .i64 x.2.1) ∧ w.cell? ⟨g, off + i * 4 + 2, none⟩ = some (.int .i64 x.2.2.1) ∧ w.cell? ⟨g, off + i * 4 + 3, none⟩ = some (.int .i64 x.2.2.2)) ∧ ∀ j, w.frozen? ⟨g, j, none⟩ = false := by
  have hi := (List.getElem?_eq_some_iff.1 hx).1
  obtain ⟨g, off, rfl, hB, hc, hf⟩ := h.rowAt (by omega)
  refine ⟨g, off, rfl, hB, ⟨?_, ?_, ?_, ?_⟩, hf⟩
  · have := hc (i * 4 + 0) (by omega)
    rw [itC_at X i 0 x hx (by omega)] at this
    exact this
  · have := hc (i * 4 + 1) (by omega)
    rw [itC_at X i 1 x hx (by omega)] at this
    rw [Nat.add_assoc]; exact this
  · have := hc (i * 4 + 2) (by omega)
    rw [itC_at X i 2 x hx (by omega)] at this
    rw [Nat.add_assoc]; exact this
  · have := hc (i * 4 + 3) (by omega)
    rw [itC_at X i 3 x hx (by omega)] at this
    rw [Nat.add_assoc]; exact this
theorem it_put {g off : Nat} (h : Sep B w (A ++ itE (.slice (some ⟨g, off, none⟩) X.length cap) X :: C)) (hi : i < X.length) (y : Itm) : Sep B (putIt w g (off + i * 4) y) (A ++ itE (.slice (some ⟨g, off, none⟩) (X.set i y).length cap) (X.set i y) :: C) := by
  have h1 := Sep.rowSet h (i * 4) (.int .i64 y.1)
  have h2 := Sep.rowSet h1 (i * 4 + 1) (.int .i64 y.2.1)
  have h3 := Sep.rowSet h2 (i * 4 + 2) (.int .i64 y.2.2.1)
  have h4 := Sep.rowSet h3 (i * 4 + 3) (.int .i64 y.2.2.2)
  rw [itC_set X i y hi] at h4
  unfold itE putIt
  rw [List.length_set]
  simp only [Nat.add_assoc] at h4 ⊢
  exact h4
theorem put_below {B0 g o : Nat} {w0 : World} (h : Below B0 w0 w) (hg : B0 ≤ g) (y : Itm) : Below B0 w0 (putIt w g o y) := by
  unfold putIt
  exact (((h.setCell (p := ⟨g, o, none⟩) hg _).setCell (p := ⟨g, o + 1, none⟩) hg _).setCell (p := ⟨g, o + 2, none⟩) hg _).setCell (p := ⟨g, o + 3, none⟩) hg _
end
end Go.Proofs.YtpfpaheafpibiaaDoor
