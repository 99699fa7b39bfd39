/- A table of numbers of the call's own: rows in blocks of their own, and the row of the rows. -/
import Derived.Test.YtnmddgjgmdegoaaRws
import Derived.Test.YtnmddgjgmdegoaaArr
import Derived.Test.YtnmddgjgmdegoaaDij
namespace Go.Proofs.Ytnmddgjgmdegoaa
open Go.RowKit
set_option linter.unusedVariables false

/-- The value of row i: n numbers from the place P i on. -/
def rowV (P : Nat → Nat × Nat × Nat) (n i : Nat) : Value := .slice (some ⟨(P i).1, (P i).2.1, none⟩) n (P i).2.2
def matRow (P : Nat → Nat × Nat × Nat) (n : Nat) (M : Nat → Nat → Int) (i : Nat) : Ent := Ent.ints 3 (rowV P n i) (arr (M i) n)
/-- m rows of n numbers each; v holds them. -/
def matE (v : Value) (P : Nat → Nat × Nat × Nat) (m n : Nat) (M : Nat → Nat → Int) : List Ent := Ent.row v m 1 28 (arr (rowV P n) m) :: (List.range m).map (matRow P n M)

theorem range_split {m i : Nat} (hi : i < m) : List.range m = List.range i ++ i :: (List.range (m - i - 1)).map (fun j => i + 1 + j) := by
  obtain ⟨r, rfl⟩ : ∃ r, m = i + (1 + r) := ⟨m - i - 1, by omega⟩
  rw [List.range_add, List.range_add, show i + (1 + r) - i - 1 = r by omega]
  simp [List.map_map, Function.comp_def, Nat.add_assoc]
theorem mat_split {v : Value} {P : Nat → Nat × Nat × Nat} {m n : Nat} {i : Nat} (hi : i < m) (F C : List Ent) : ∃ F' : (Nat → Nat → Int) → List Ent, ∃ C' : (Nat → Nat → Int) → List Ent,
    (∀ M, F ++ (matE v P m n M ++ C) = F' M ++ matRow P n M i :: C' M) ∧ ∀ M M', (∀ j, j < m → j ≠ i → M j = M' j) → F' M = F' M' ∧ C' M = C' M' := by
  refine ⟨fun M => F ++ Ent.row v m 1 28 (arr (rowV P n) m) :: (List.range i).map (matRow P n M), fun M => ((List.range (m - i - 1)).map (fun j => i + 1 + j)).map (matRow P n M) ++ C, fun M => ?_, fun M M' h => ⟨?_, ?_⟩⟩
  · unfold matE
    rw [range_split hi]
    simp
  · have e : (List.range i).map (matRow P n M) = (List.range i).map (matRow P n M') := List.map_congr_left fun j hj => by
      have := List.mem_range.1 hj
      unfold matRow
      rw [h j (by omega) (by omega)]
    simp only [e]
  · have e : ((List.range (m - i - 1)).map (fun j => i + 1 + j)).map (matRow P n M) = ((List.range (m - i - 1)).map (fun j => i + 1 + j)).map (matRow P n M') := List.map_congr_left fun j hj => by
      obtain ⟨k, hk, rfl⟩ := List.mem_map.1 hj
      have := List.mem_range.1 hk
      unfold matRow
      rw [h _ (by omega) (by omega)]
    simp only [e]
section
variable {B : Nat} {w : World} {F C : List Ent} {v : Value} {P : Nat → Nat × Nat × Nat} {m n : Nat} {M : Nat → Nat → Int}
theorem mat_at (h : Sep B w (F ++ (matE v P m n M ++ C))) {i k : Nat} (hi : i < m) (hk : k < n) : w.cell? ⟨(P i).1, (P i).2.1 + k, none⟩ = some (.int .i64 (M i k)) ∧ w.frozen? ⟨(P i).1, (P i).2.1 + k, none⟩ = false ∧ B ≤ (P i).1 ∧
    ∀ y, Sep B (w.setCell ⟨(P i).1, (P i).2.1 + k, none⟩ (.int .i64 y)) (F ++ (matE v P m n (updf M i (updf (M i) k y)) ++ C)) := by
  obtain ⟨F', C', h1, h2⟩ := mat_split (v := v) (P := P) (n := n) hi F C
  rw [h1] at h
  obtain ⟨g, off, he, hB, c1, c2, hset⟩ := arrI_at h hk
  simp only [Option.some.injEq, Addr.mk.injEq, and_true] at he
  obtain ⟨rfl, rfl⟩ := he
  refine ⟨c1, c2, hB, fun y => ?_⟩
  rw [h1]
  obtain ⟨e1, e2⟩ := h2 (updf M i (updf (M i) k y)) M (fun j _ hj => updf_other hj)
  rw [e1, e2]
  have := hset y
  unfold matRow
  rw [updf_same]
  exact this
/-- The row itself, read. -/
theorem mat_sl (h : Sep B w (F ++ (matE v P m n M ++ C))) {i : Nat} (hi : i < m) : IntSl w.heap.size w (some ⟨(P i).1, (P i).2.1, none⟩) (arr (M i) n) := by
  intro j x hx
  have hj : j < n := by have := (List.getElem?_eq_some_iff.1 hx).1; rwa [arr_len] at this
  rw [arr_get hj] at hx
  obtain ⟨c1, _, _, _⟩ := mat_at h hi hj
  have hx' : M i j = x := by simpa using hx
  exact ⟨_, _, rfl, World.block_lt_of_cell? w _ c1, by rw [← hx']; exact c1⟩
theorem mat_out (h : Sep B w (F ++ (matE v P m n M ++ C))) : ∃ ao c, v = .slice ao m c ∧ m ≤ c ∧ (0 < m → ∃ g o, ao = some ⟨g, o, none⟩ ∧ g < w.heap.size ∧ ∀ i, i < m → w.cell? ⟨g, o + i, none⟩ = some (rowV P n i)) := by
  have h' : Sep B w (F ++ Ent.row v m 1 28 (arr (rowV P n) m) :: ((List.range m).map (matRow P n M) ++ C)) := h
  obtain ⟨_, ao, c, rfl, hc, _⟩ := h'.rowShape
  refine ⟨ao, c, rfl, hc, fun h0 => ?_⟩
  obtain ⟨g, o, rfl, _, hcell, _⟩ := h'.rowAt (by omega)
  exact ⟨g, o, rfl, (h'.mem.2 g rfl).2, fun i hi => by rw [hcell i (by omega), arr_get hi]⟩
theorem mat_congr {M' : Nat → Nat → Int} (h : ∀ i j, i < m → j < n → M i j = M' i j) : matE v P m n M = matE v P m n M' := by
  unfold matE
  congr 1
  refine List.map_congr_left fun i hi => ?_
  unfold matRow
  rw [arr_congr fun j hj => h i j (List.mem_range.1 hi) hj]
/-- One row more, behind the others. -/
theorem mat_push {v' : Value} {p : Nat × Nat × Nat} (h : Sep B w (Ent.row v' (m + 1) 1 28 (arr (rowV P n) m ++ [.slice (some ⟨p.1, p.2.1, none⟩) n p.2.2]) :: ((List.range m).map (matRow P n M) ++ [Ent.ints 3 (.slice (some ⟨p.1, p.2.1, none⟩) n p.2.2) (arr (M m) n)]))) :
    Sep B w (matE v' (updf P m p) (m + 1) n M) := by
  have e1 : arr (rowV (updf P m p) n) (m + 1) = arr (rowV P n) m ++ [.slice (some ⟨p.1, p.2.1, none⟩) n p.2.2] := by
    unfold arr
    rw [List.range_succ, List.map_append]
    congr 1
    · refine List.map_congr_left fun i hi => ?_
      unfold rowV
      rw [updf_other (by have := List.mem_range.1 hi; omega)]
    · simp [rowV, updf_same]
  have e2 : (List.range (m + 1)).map (matRow (updf P m p) n M) = (List.range m).map (matRow P n M) ++ [Ent.ints 3 (.slice (some ⟨p.1, p.2.1, none⟩) n p.2.2) (arr (M m) n)] := by
    rw [List.range_succ, List.map_append]
    congr 1
    · refine List.map_congr_left fun i hi => ?_
      unfold matRow rowV
      rw [updf_other (by have := List.mem_range.1 hi; omega)]
    · simp [matRow, rowV, updf_same]
  unfold matE
  rw [e1, e2]
  exact h
end
end Go.Proofs.Ytnmddgjgmdegoaa
