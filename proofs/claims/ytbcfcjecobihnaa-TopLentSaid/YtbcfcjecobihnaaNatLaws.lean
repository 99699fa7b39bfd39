/- nat, in plain lists: what stays lent, and to whom. -/
import Derived.Test.YtbcfcjecobihnaaNatFullPlain
namespace Go.Proofs.Ytbcfcjecobihnaa
set_option linter.unusedVariables false

section
variable {low many : Int} {M : NatM}
theorem natOut_zero (h : NatOk low many M) {p : Pl} (hz : (natOut low many M p).2.2 = 0) : PlOk p ∧ ((natOut low many M p).2.1, p) ∈ (natOut low many M p).1 := by
  unfold natOut at hz ⊢
  by_cases hp : PlOk p
  · rw [if_pos hp] at hz ⊢
    refine ⟨hp, ?_⟩
    cases hq : portOf M p with
    | some q => exact portOf_mem hq
    | none =>
      rw [hq] at hz
      simp only at hz ⊢
      cases hf : freeFrom M many.toNat low with
      | some q => simp
      | none => rw [hf] at hz; simp at hz
  · rw [if_neg hp] at hz; simp at hz
theorem natOut_not {p : Pl} (hz : (natOut low many M p).2.2 ≠ 0) : (natOut low many M p).2.1 = 0 := by
  unfold natOut at hz ⊢
  by_cases hp : PlOk p
  · rw [if_pos hp] at hz ⊢
    cases hq : portOf M p with
    | some q => rw [hq] at hz; simp at hz
    | none =>
      rw [hq] at hz
      simp only at hz ⊢
      cases hf : freeFrom M many.toNat low with
      | some q => rw [hf] at hz; simp at hz
      | none => rfl
  · rw [if_neg hp]
theorem natOut_keep {p : Pl} {x : Int × Pl} (hx : x ∈ M) : x ∈ (natOut low many M p).1 := by
  unfold natOut
  by_cases hp : PlOk p
  · rw [if_pos hp]
    cases hq : portOf M p with
    | some q => exact hx
    | none =>
      simp only
      cases hf : freeFrom M many.toNat low with
      | some q => exact List.mem_append_left _ hx
      | none => exact hx
  · rw [if_neg hp]; exact hx
theorem natDrop_keep (h : NatOk low many M) {q : Int} {x : Int × Pl} (hx : x ∈ M) (hne : x.1 ≠ q) : x ∈ (natDrop M q).1 := by
  unfold natDrop
  split
  · exact hx
  · exact (erase_mem h).2 ⟨hx, hne⟩
theorem natOut_again (h : NatOk low many M) {q : Int} {p : Pl} (hm : (q, p) ∈ M) : natOut low many M p = (M, q, 0) := by
  unfold natOut
  rw [if_pos (h.pl _ hm), h.port_is.2 hm]
theorem lentTo_mem {x : Int} : ∀ {k : Nat}, x ∈ lentTo M low k → low ≤ x ∧ x < low + (k : Int) ∧ placeOf M x ≠ none
  | 0, hx => by cases hx
  | k + 1, hx => by
    unfold lentTo at hx
    rcases List.mem_append.1 hx with hx | hx
    · obtain ⟨a, b, c⟩ := lentTo_mem hx
      exact ⟨a, by omega, c⟩
    · split at hx
      · cases hx
      · rename_i hn
        simp at hx
        rw [hx]
        exact ⟨by omega, by omega, hn⟩
theorem lentTo_sorted : ∀ {k : Nat}, (lentTo M low k).Pairwise (· < ·)
  | 0 => List.Pairwise.nil
  | k + 1 => by
    unfold lentTo
    refine List.pairwise_append.2 ⟨lentTo_sorted, by split <;> simp, fun a ha b hb => ?_⟩
    have := (lentTo_mem ha).2.1
    split at hb
    · cases hb
    · simp at hb; omega
theorem pairwise_at {l : List Int} (h : l.Pairwise (· < ·)) {i j : Nat} {x y : Int} (hi : l[i]? = some x) (hj : l[j]? = some y) (hij : i < j) : x < y := by
  obtain ⟨a1, a2⟩ := List.getElem?_eq_some_iff.1 hi
  obtain ⟨b1, b2⟩ := List.getElem?_eq_some_iff.1 hj
  rw [← a2, ← b2]
  exact List.pairwise_iff_getElem.1 h i j a1 b1 hij
end
end Go.Proofs.Ytbcfcjecobihnaa
