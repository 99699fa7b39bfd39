/- A table of numbers that is read. -/
import Derived.Test.YtnmddgjgmdegoaaMat
namespace Go.Proofs.Ytnmddgjgmdegoaa
open Go.RowKit
set_option linter.unusedVariables false

def MatR (B : Nat) (w : World) (ao : Option Addr) (P : Nat → Nat × Nat × Nat) (m n : Nat) (M : Nat → Nat → Int) : Prop :=
  ∀ i, i < m → ∃ g o, ao = some ⟨g, o, none⟩ ∧ g < B ∧ w.cell? ⟨g, o + i, none⟩ = some (rowV P n i) ∧ (P i).1 < B ∧ ∀ k, k < n → w.cell? ⟨(P i).1, (P i).2.1 + k, none⟩ = some (.int .i64 (M i k))
theorem MatR.below {B : Nat} {w w' : World} {ao : Option Addr} {P : Nat → Nat × Nat × Nat} {m n : Nat} {M : Nat → Nat → Int} (h : MatR B w ao P m n M) (hb : Below B w w') : MatR B w' ao P m n M := by
  intro i hi
  obtain ⟨g, o, rfl, hg, hc, hp, hr⟩ := h i hi
  exact ⟨g, o, rfl, hg, (hb.cell (p := ⟨g, o + i, none⟩) hg).trans hc, hp, fun k hk => (hb.cell (p := ⟨(P i).1, (P i).2.1 + k, none⟩) hp).trans (hr k hk)⟩
theorem MatR.mono {B B' : Nat} {w : World} {ao : Option Addr} {P : Nat → Nat × Nat × Nat} {m n : Nat} {M : Nat → Nat → Int} (h : MatR B w ao P m n M) (hB : B ≤ B') : MatR B' w ao P m n M := by
  intro i hi
  obtain ⟨g, o, rfl, hg, hc, hp, hr⟩ := h i hi
  exact ⟨g, o, rfl, by omega, hc, by omega, hr⟩
theorem MatR.row {B : Nat} {w : World} {ao : Option Addr} {P : Nat → Nat × Nat × Nat} {m n : Nat} {M : Nat → Nat → Int} (h : MatR B w ao P m n M) {i : Nat} (hi : i < m) : IntSl B w (some ⟨(P i).1, (P i).2.1, none⟩) (arr (M i) n) := by
  intro j x hx
  have hj : j < n := by have := (List.getElem?_eq_some_iff.1 hx).1; rwa [arr_len] at this
  rw [arr_get hj] at hx
  have hx' : M i j = x := by simpa using hx
  obtain ⟨g, o, rfl, hg, hc, hp, hr⟩ := h i hi
  exact ⟨_, _, rfl, hp, by rw [← hx']; exact hr j hj⟩
theorem mat_read {B : Nat} {w : World} {F C : List Ent} {ao : Option Addr} {c : Nat} {P : Nat → Nat × Nat × Nat} {m n : Nat} {M : Nat → Nat → Int} (h : Sep B w (F ++ (matE (.slice ao m c) P m n M ++ C))) (hn : 0 < n) : MatR w.heap.size w ao P m n M := by
  intro i hi
  obtain ⟨ao', c', he, _, hout⟩ := mat_out h
  simp only [Value.slice.injEq] at he
  obtain ⟨rfl, _, rfl⟩ := he
  obtain ⟨g, o, rfl, hg, hc⟩ := hout (by omega)
  exact ⟨g, o, rfl, hg, hc i hi, World.block_lt_of_cell? w _ (mat_at h hi hn).1, fun k hk => (mat_at h hi hk).1⟩
theorem arr_eq_iff {n : Nat} {f g : Nat → Int} : arr f n = arr g n ↔ ∀ j, j < n → f j = g j := by
  constructor
  · intro h j hj
    have := congrArg (fun l => l[j]?) h
    simp only [arr_get hj] at this
    simpa using this
  · exact fun h => arr_congr h
end Go.Proofs.Ytnmddgjgmdegoaa
