/- Rows of words (three numbers each) of the call's own. -/
import Derived.Test.YtnmddgjgmdegoaaRows
import Derived.Test.YtnmddgjgmdegoaaArr
import Derived.Test.YtnmddgjgmdegoaaDij
import Derived.Test.YtnmddgjgmdegoaaStpPlain
import Derived.OwnWalk
namespace Go.Proofs.Ytnmddgjgmdegoaa
open Go.RowKit
set_option linter.unusedVariables false

def wC (x : Word) : List Value := [.int .i64 x.1, .int .i64 x.2.1, .int .i64 x.2.2]
def wordsE (v : Value) (n : Nat) (W : Nat → Word) : Ent := Ent.row v n 3 127 ((arr W n).flatMap wC)
theorem elemWord : ElemTy Try.prog 125 127 3 24 (.agg #[.int .i64 0, .int .i64 0, .int .i64 0]) := ⟨Try.underlying125, info_parts (by kernel_rfl), rfl, by decide⟩
theorem wC_len (n : Nat) (W : Nat → Word) : ((arr W n).flatMap wC).length = n * 3 := by
  have : ∀ l : List Word, (l.flatMap wC).length = l.length * 3 := fun l => by
    induction l with
    | nil => rfl
    | cons x r ih => rw [List.flatMap_cons, List.length_append, ih, List.length_cons]; simp [wC]; omega
  rw [this, arr_len]
theorem wC_get {n k t : Nat} {W : Nat → Word} (hk : k < n) (ht : t < 3) : ((arr W n).flatMap wC)[k * 3 + t]? = (wC (W k))[t]? := flat_get wC 3 (fun _ => rfl) ht (arr W n) k (W k) (arr_get hk)
theorem flat_set3 {n k : Nat} {W : Nat → Word} (hk : k < n) (x : Word) :
    ((((arr W n).flatMap wC).set (k * 3) (.int .i64 x.1)).set (k * 3 + 1) (.int .i64 x.2.1)).set (k * 3 + 2) (.int .i64 x.2.2) = (arr (updf W k x) n).flatMap wC := by
  refine List.ext_getElem? fun i => ?_
  have hl := wC_len n W
  rcases Nat.lt_or_ge i (n * 3) with hi | hi
  · have hq : i / 3 < n := by omega
    have ht : i % 3 < 3 := Nat.mod_lt _ (by decide)
    have hx := wC_get (W := updf W k x) hq ht
    have hy := wC_get (W := W) hq ht
    have hi3 : i / 3 * 3 + i % 3 = i := by omega
    rw [hi3] at hx hy
    rw [hx]
    simp only [List.getElem?_set, List.length_set, hl]
    by_cases hqk : i / 3 = k
    · rw [hqk, updf_same]
      have h3 : i % 3 = 0 ∨ i % 3 = 1 ∨ i % 3 = 2 := by omega
      rcases h3 with h | h | h
      · rw [if_neg (by omega), if_neg (by omega), if_pos (by omega), if_pos (by omega), h]; rfl
      · rw [if_neg (by omega), if_pos (by omega), if_pos (by omega), h]; rfl
      · rw [if_pos (by omega), if_pos (by omega), h]; rfl
    · rw [updf_other hqk, ← hy, if_neg (by omega), if_neg (by omega), if_neg (by omega)]
  · rw [List.getElem?_eq_none (by simp only [List.length_set]; omega), List.getElem?_eq_none (by rw [wC_len]; exact hi)]
section
variable {B : Nat} {w : World} {A C : List Ent} {g o c n k : Nat} {W : Nat → Word}
theorem words_at (h : Sep B w (A ++ wordsE (.slice (some ⟨g, o, none⟩) n c) n W :: C)) (hk : k < n) :
    (w.cell? ⟨g, o + k * 3, none⟩ = some (.int .i64 (W k).1) ∧ w.cell? ⟨g, o + k * 3 + 1, none⟩ = some (.int .i64 (W k).2.1) ∧ w.cell? ⟨g, o + k * 3 + 2, none⟩ = some (.int .i64 (W k).2.2)) ∧
    (w.frozen? ⟨g, o + k * 3, none⟩ = false ∧ w.frozen? ⟨g, o + k * 3 + 1, none⟩ = false ∧ w.frozen? ⟨g, o + k * 3 + 2, none⟩ = false) ∧ B ≤ g ∧
    ∀ x : Word, Sep B (((w.setCell ⟨g, o + k * 3, none⟩ (.int .i64 x.1)).setCell ⟨g, o + k * 3 + 1, none⟩ (.int .i64 x.2.1)).setCell ⟨g, o + k * 3 + 2, none⟩ (.int .i64 x.2.2)) (A ++ wordsE (.slice (some ⟨g, o, none⟩) n c) n (updf W k x) :: C) := by
  obtain ⟨g', o', he, hB, hc, hf⟩ := Sep.rowAt h (by omega)
  simp only [Option.some.injEq, Addr.mk.injEq, and_true] at he
  obtain ⟨rfl, rfl⟩ := he
  have q0 := hc (k * 3) (by omega)
  have q1 := hc (k * 3 + 1) (by omega)
  have q2 := hc (k * 3 + 2) (by omega)
  have e0 := wC_get (W := W) hk (show 0 < 3 by decide)
  have e1 := wC_get (W := W) hk (show 1 < 3 by decide)
  have e2 := wC_get (W := W) hk (show 2 < 3 by decide)
  rw [Nat.add_zero] at e0
  rw [e0] at q0
  rw [e1, ← Nat.add_assoc] at q1
  rw [e2, ← Nat.add_assoc] at q2
  refine ⟨⟨q0, q1, q2⟩, ⟨hf _, hf _, hf _⟩, hB, fun x => ?_⟩
  have s1 := Sep.rowSet h (k * 3) (.int .i64 x.1)
  have s2 := Sep.rowSet s1 (k * 3 + 1) (.int .i64 x.2.1)
  have s3 := Sep.rowSet s2 (k * 3 + 2) (.int .i64 x.2.2)
  rw [flat_set3 hk x, ← Nat.add_assoc, ← Nat.add_assoc] at s3
  exact s3
end
theorem made_words (n : Nat) : (madeCells #[Value.int .i64 0, .int .i64 0, .int .i64 0] (n * 3)).toList = (arr (fun _ => ((0, 0, 0) : Word)) n).flatMap wC := by
  have := madeCells_flat #[Value.int .i64 0, .int .i64 0, .int .i64 0] n
  rw [show n * 3 = n * (#[Value.int .i64 0, .int .i64 0, .int .i64 0] : Array Value).size from rfl, this, ← arr_const, List.flatMap_def, List.map_replicate]
  rfl
end Go.Proofs.Ytnmddgjgmdegoaa
