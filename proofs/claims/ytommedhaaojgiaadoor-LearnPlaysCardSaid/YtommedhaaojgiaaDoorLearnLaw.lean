/- What a switch that learns answers, in plain Lean: the laws. -/
import Derived.Test.YtommedhaaojgiaaDoorLearnHeard
namespace Go.Proofs.YtommedhaaojgiaaDoor
open Go.RowKit
set_option linter.unusedVariables false

theorem mem_look {T : Tab} {a p : Int} (hn : (T.map (·.1)).Nodup) (hm : (a, p) ∈ T) : look T a = p ∧ ∃ k, tfind T a = some k := by
  cases hf : tfind T a with
  | none => exact absurd rfl (tfind_none.1 hf _ hm)
  | some k =>
    obtain ⟨p', h1, h2, _⟩ := tfind_some hf
    obtain ⟨j, hj⟩ := List.mem_iff_getElem?.1 hm
    have g1 : (T.map (·.1))[k]? = some a := by rw [List.getElem?_map, h1]; rfl
    have g2 : (T.map (·.1))[j]? = some a := by rw [List.getElem?_map, hj]; rfl
    have hlt : k < (T.map (·.1)).length := (List.getElem?_eq_some_iff.1 g1).1
    have e := (List.getElem?_inj hlt hn).1 (g1.trans g2.symm)
    rw [← e, h1] at hj
    have hp : p' = p := by simpa using hj
    exact ⟨h2.trans hp, k, rfl⟩
theorem heardT_last (T : Tab) (a p : Int) : ∃ pre, heardT T a p = pre ++ [(a, p)] := by
  unfold heardT
  split
  · rename_i h
    refine ⟨(gone T a).drop 1, ?_⟩
    rw [List.drop_append_of_le_length]
    simp at h
    omega
  · exact ⟨_, rfl⟩
theorem heardT_mem (T : Tab) (a p : Int) : (a, p) ∈ heardT T a p := by
  obtain ⟨pre, h⟩ := heardT_last T a p
  rw [h]; simp
theorem gone_mem {T : Tab} {b : Int} {x : Int × Int} (hx : x ∈ T) (hne : x.1 ≠ b) : x ∈ gone T b := by
  unfold gone
  cases hf : tfind T b with
  | none => exact hx
  | some k =>
    obtain ⟨p', h1, _, _⟩ := tfind_some hf
    obtain ⟨j, hj⟩ := List.mem_iff_getElem?.1 hx
    rcases Nat.lt_trichotomy j k with h | h | h
    · exact List.mem_append_left _ (List.mem_iff_getElem?.2 ⟨j, by rw [List.getElem?_take, if_pos h]; exact hj⟩)
    · rw [h, h1] at hj
      have : (b, p') = x := by simpa using hj
      exact absurd (by rw [← this]) hne
    · exact List.mem_append_right _ (List.mem_iff_getElem?.2 ⟨j - (k + 1), by rw [List.getElem?_drop, show k + 1 + (j - (k + 1)) = j by omega]; exact hj⟩)
/-- Who was heard before the last one is still known. -/
theorem heard_two {T : Tab} (h : Good T) {a t p b q : Int} (hv : Valid a t p) (hne : a ≠ b) : (a, p) ∈ heardT (heardT T a p) b q := by
  have hg := h.heard hv
  obtain ⟨pre, hpre⟩ := heardT_last T a p
  have hm := gone_mem (b := b) (heardT_mem T a p) hne
  have hs := gone_sub (heardT T a p) b
  generalize heardT T a p = T1 at *
  unfold heardT
  split
  · rename_i h8
    simp at h8
    have e := hs.eq_of_length_le (by have := hg.len; omega)
    rw [e, hpre]
    have hl : 8 ≤ (pre ++ [(a, p)]).length := by rw [← hpre, ← e]; omega
    simp at hl
    rw [List.append_assoc, List.drop_append_of_le_length (by omega)]
    simp
  · exact List.mem_append_left _ hm
theorem outs_known {T : Tab} {a p q : Int} (hn : (T.map (·.1)).Nodup) (hm : (a, p) ∈ T) : outs T a q = if p = q then [] else [p] := by
  obtain ⟨h1, k, h2⟩ := mem_look hn hm
  unfold outs
  rw [h2, h1]
/-- Nothing goes back where it came from. -/
theorem outs_not (T : Tab) (a p : Int) : p ∉ outs T a p := by
  unfold outs
  split
  · simp
  · split
    · simp
    · rename_i h; simp; exact fun e => h e.symm
end Go.Proofs.YtommedhaaojgiaaDoor
