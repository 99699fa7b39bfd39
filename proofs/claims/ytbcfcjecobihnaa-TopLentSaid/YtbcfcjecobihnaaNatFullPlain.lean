/- nat, in plain lists: a table that is filled, and one port that is dropped. -/
import Derived.Test.YtbcfcjecobihnaaNatPlain
namespace Go.Proofs.Ytbcfcjecobihnaa
set_option linter.unusedVariables false

theorem freeFrom_at {M : NatM} : ∀ {n k : Nat} {low : Int}, (∀ j : Nat, j < k → placeOf M (low + (j : Int)) ≠ none) → k < n → placeOf M (low + (k : Int)) = none → freeFrom M n low = some (low + (k : Int))
  | 0, k, low, _, h, _ => by omega
  | n + 1, 0, low, _, _, h => by
    rw [freeFrom, if_pos (by simpa using h)]
    simp
  | n + 1, k + 1, low, h1, h2, h3 => by
    rw [freeFrom, if_neg (by simpa using h1 0 (by omega))]
    have := freeFrom_at (M := M) (n := n) (k := k) (low := low + 1) (fun j hj => by have := h1 (j + 1) (by omega); rwa [show low + 1 + (j : Int) = low + ((j + 1 : Nat) : Int) by omega]) (by omega) (by rw [show low + 1 + (k : Int) = low + ((k + 1 : Nat) : Int) by omega]; exact h3)
    rw [this]
    congr 1; omega
theorem freeFrom_none {M : NatM} : ∀ {n : Nat} {low : Int}, (∀ j : Nat, j < n → placeOf M (low + (j : Int)) ≠ none) → freeFrom M n low = none
  | 0, low, _ => rfl
  | n + 1, low, h => by
    rw [freeFrom, if_neg (by simpa using h 0 (by omega))]
    exact freeFrom_none (fun j hj => by have := h (j + 1) (by omega); rwa [show low + 1 + (j : Int) = low + ((j + 1 : Nat) : Int) by omega])
theorem lentTo_all {M : NatM} {low : Int} : ∀ {k : Nat}, (∀ j : Nat, j < k → placeOf M (low + (j : Int)) ≠ none) → (lentTo M low k).length = k
  | 0, _ => rfl
  | k + 1, h => by
    unfold lentTo
    rw [List.length_append, lentTo_all (fun j hj => h j (by omega)), if_neg (h k (by omega))]
    rfl
def fullM (low : Int) (i : Nat) : NatM := (List.range i).map fun (j : Nat) => (low + (j : Int), ((j : Int), 7))
theorem fullM_succ (low : Int) (i : Nat) : fullM low (i + 1) = fullM low i ++ [(low + (i : Int), ((i : Int), 7))] := by
  unfold fullM; rw [List.range_succ, List.map_append]; rfl
theorem fullM_mem {low : Int} {i : Nat} {x : Int × Pl} : x ∈ fullM low i ↔ ∃ j : Nat, j < i ∧ x = (low + (j : Int), ((j : Int), 7)) := by
  unfold fullM
  rw [List.mem_map]
  constructor
  · rintro ⟨j, hj, rfl⟩; exact ⟨j, List.mem_range.1 hj, rfl⟩
  · rintro ⟨j, hj, rfl⟩; exact ⟨j, List.mem_range.2 hj, rfl⟩
theorem fullM_there {low : Int} {i j : Nat} (hj : j < i) : placeOf (fullM low i) (low + (j : Int)) ≠ none := fun h =>
  placeOf_none.1 h _ (fullM_mem.2 ⟨j, hj, rfl⟩) rfl
theorem fullM_not {low : Int} {i : Nat} {q : Int} (h : ¬ (low ≤ q ∧ q < low + (i : Int))) : placeOf (fullM low i) q = none :=
  placeOf_none.2 fun x hx e => by
    obtain ⟨j, hj, rfl⟩ := fullM_mem.1 hx
    simp only at e
    omega
theorem fullM_port {low : Int} {i : Nat} {a : Int} (h : (i : Int) ≤ a) : portOf (fullM low i) (a, 7) = none :=
  portOf_none.2 fun x hx e => by
    obtain ⟨j, hj, rfl⟩ := fullM_mem.1 hx
    have := congrArg Prod.fst e
    simp only at this
    omega
theorem full_step {low : Int} {n i : Nat} (h : LmOk low (n : Int)) (hi : i < n) : natOut low (n : Int) (fullM low i) ((i : Int), 7) = (fullM low (i + 1), low + (i : Int), 0) := by
  have hp : PlOk ((i : Int), 7) := by have := h.2.1.2; unfold PlOk; simp only; omega
  unfold natOut
  rw [if_pos hp, fullM_port (Int.le_refl _)]
  simp only [Int.toNat_natCast]
  rw [freeFrom_at (k := i) (fun j hj => fullM_there hj) hi (fullM_not (by omega)), fullM_succ]
theorem full_end {low : Int} {n : Nat} (h : LmOk low (n : Int)) : natOut low (n : Int) (fullM low n) (99, 7) = (fullM low n, 0, 4) := by
  have hp : PlOk ((99 : Int), 7) := by decide
  unfold natOut
  rw [if_pos hp, fullM_port (by have := h.2.1.2; omega)]
  simp only [Int.toNat_natCast]
  rw [freeFrom_none (fun j hj => fullM_there hj)]
theorem full_lent {low : Int} {n : Nat} : (lentTo (fullM low n) low n).length = n := lentTo_all (fun j hj => fullM_there hj)
/-- Without a port. -/
theorem erase_mem {low many : Int} {M : NatM} (h : NatOk low many M) {q : Int} {x : Int × Pl} : x ∈ (M.eraseP fun x => decide (x.1 = q)) ↔ x ∈ M ∧ x.1 ≠ q := by
  have main : ∀ (M : NatM), (M.map (·.1)).Nodup → (x ∈ (M.eraseP fun x => decide (x.1 = q)) ↔ x ∈ M ∧ x.1 ≠ q) := by
    intro M
    induction M with
    | nil => simp
    | cons y r ih =>
      intro hn
      rw [List.map_cons, List.nodup_cons] at hn
      by_cases hy : y.1 = q
      · rw [List.eraseP_cons_of_pos (by simp [hy])]
        constructor
        · intro hx
          exact ⟨List.mem_cons_of_mem _ hx, fun e => hn.1 (by rw [hy, ← e]; exact List.mem_map.2 ⟨x, hx, rfl⟩)⟩
        · rintro ⟨hx, hne⟩
          rcases List.mem_cons.1 hx with rfl | hx
          · exact absurd hy hne
          · exact hx
      · rw [List.eraseP_cons_of_neg (by simp [hy]), List.mem_cons, List.mem_cons, ih hn.2]
        constructor
        · rintro (rfl | ⟨h1, h2⟩)
          · exact ⟨.inl rfl, hy⟩
          · exact ⟨.inr h1, h2⟩
        · rintro ⟨h1 | h1, h2⟩
          · exact .inl h1
          · exact .inr ⟨h1, h2⟩
  exact main M h.ports
theorem full_ok {low : Int} {n i : Nat} (h : LmOk low (n : Int)) : ∀ {i : Nat}, i ≤ n → NatOk low (n : Int) (fullM low i)
  | 0, _ => NatOk.nil h
  | i + 1, hi => by
    have := (full_ok (i := i) (n := n) h (show i ≤ n by omega)).out ((i : Int), 7)
    rw [full_step h (by omega)] at this
    exact this
theorem full_drop_no {low : Int} {n : Nat} {q : Int} (h : ¬ (low ≤ q ∧ q < low + (n : Int))) : natDrop (fullM low n) q = (fullM low n, 5) := by
  unfold natDrop; rw [if_pos (fullM_not h)]
theorem full_drop_yes {low : Int} {n : Nat} {q : Int} (h : low ≤ q ∧ q < low + (n : Int)) : natDrop (fullM low n) q = ((fullM low n).eraseP fun x => decide (x.1 = q), 0) := by
  unfold natDrop
  have hj := fullM_there (low := low) (i := n) (j := (q - low).toNat) (by omega)
  rw [show low + (((q - low).toNat : Nat) : Int) = q by omega] at hj
  rw [if_neg hj]
/-- What is dropped is lent again, to the next one. -/
theorem full_again {low : Int} {n : Nat} {q : Int} (hl : LmOk low (n : Int)) (h : low ≤ q ∧ q < low + (n : Int)) :
    ∃ M, natOut low (n : Int) ((fullM low n).eraseP fun x => decide (x.1 = q)) (99, 7) = (M, q, 0) ∧ natDrop M (low + (n : Int)) = (M, 5) := by
  have hok := full_ok (i := n) hl (Nat.le_refl n)
  have hp : PlOk ((99 : Int), 7) := by decide
  have hport : portOf ((fullM low n).eraseP fun x => decide (x.1 = q)) (99, 7) = none := portOf_none.2 fun x hx e => by
    exact portOf_none.1 (fullM_port (low := low) (i := n) (a := 99) (by have := hl.2.1.2; omega)) x ((erase_mem hok).1 hx).1 e
  have hk : placeOf ((fullM low n).eraseP fun x => decide (x.1 = q)) q = none := placeOf_none.2 fun x hx e => ((erase_mem hok).1 hx).2 e
  have hfree : freeFrom ((fullM low n).eraseP fun x => decide (x.1 = q)) n low = some q := by
    have := freeFrom_at (M := (fullM low n).eraseP fun x => decide (x.1 = q)) (n := n) (k := (q - low).toNat) (low := low) (fun j hj hn => by
      refine placeOf_none.1 hn (low + (j : Int), ((j : Int), 7)) ((erase_mem hok).2 ⟨fullM_mem.2 ⟨j, by omega, rfl⟩, by simp only; omega⟩) rfl) (by omega) (by rw [show low + (((q - low).toNat : Nat) : Int) = q by omega]; exact hk)
    rw [this]; congr 1; omega
  refine ⟨((fullM low n).eraseP fun x => decide (x.1 = q)) ++ [(q, (99, 7))], ?_, ?_⟩
  · unfold natOut
    rw [if_pos hp, hport]
    simp only [Int.toNat_natCast]
    rw [hfree]
  · unfold natDrop
    rw [if_pos]
    refine placeOf_none.2 fun x hx e => ?_
    rcases List.mem_append.1 hx with hx | hx
    · obtain ⟨j, hj, rfl⟩ := fullM_mem.1 ((erase_mem hok).1 hx).1
      simp only at e; omega
    · simp at hx
      rw [hx] at e
      simp only at e
      omega
end Go.Proofs.Ytbcfcjecobihnaa
