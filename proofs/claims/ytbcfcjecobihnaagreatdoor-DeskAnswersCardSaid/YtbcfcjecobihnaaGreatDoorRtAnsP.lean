/- Plain: what a session's book holds; the answers of verbs. ferryhytheref4.called. -/
import Derived.Test.YtbcfcjecobihnaaGreatDoorRtOpen
import Derived.Test.YtbcfcjecobihnaaGreatDoorDskLine
namespace Go.Proofs.YtbcfcjecobihnaaGreatDoor
open Go.RowKit
set_option linter.unusedVariables false
set_option linter.unusedSimpArgs false
set_option maxRecDepth 100000

def RteAll (L : List Rte) : Prop := L.length ≤ 32 ∧ SrtR L ∧ ∀ x ∈ L, lpOk x.1 x.2.1 ∧ x.2.2 ≤ 9
theorem RteAll.set {L : List Rte} (h : RteAll L) (a n x : Int) : RteAll (setRR L a n x).1 := by
  obtain ⟨h1, h2, h3⟩ := h
  obtain ⟨e1, e2⟩ := setRR_small h1 h2 a n x
  refine ⟨e1, e2, ?_⟩
  by_cases hz : (setRR L a n x).2 = 0
  · obtain ⟨a', n', x', rfl, rfl, rfl, hk, hx⟩ := setRR_ok hz
    intro y hy
    have hy2 : y ∈ setL L a' n' x' ∨ y ∈ L := by
      unfold setRR at hy
      split at hy
      · exact .inr hy
      · split at hy
        · exact .inr hy
        · split at hy
          · exact .inr hy
          · exact .inl (by simpa using hy)
    rcases hy2 with hy2 | hy2
    · rcases (setL_mem h2 y).1 hy2 with rfl | ⟨hy3, -⟩
      · exact ⟨hk, hx⟩
      · exact h3 y hy3
    · exact h3 y hy2
  · rw [setRR_err hz]; exact h3
theorem RteAll.drop {L : List Rte} (h : RteAll L) (a n : Int) : RteAll (dropR L a n).1 := by
  obtain ⟨h1, h2, h3⟩ := h
  obtain ⟨e1, e2⟩ := dropR_small h1 h2 a n
  refine ⟨e1, e2, fun y hy => h3 y ?_⟩
  unfold dropR at hy
  split at hy
  · exact hy
  · split at hy
    · first | exact (List.mem_filter.1 hy).1 | exact hy
    · first | exact (List.mem_filter.1 hy).1 | exact hy
theorem app_all {b : Bk} (h : RteAll b.1) (op : BOp) : RteAll (op.app b).1.1 := by
  cases op with
  | set a n x =>
    show RteAll (bkSet b _ _ _).1.1
    unfold bkSet
    split
    · exact h
    · split
      · exact h.set ..
      · exact h
  | drop a n =>
    show RteAll (bkDrop b _ _).1.1
    unfold bkDrop
    split
    · exact h
    · split
      · exact h.drop ..
      · exact h
theorem runOps_all : ∀ {ops : List BOp} {b0 b : Bk}, RteAll b0.1 → runOps b0 ops = some b → RteAll b.1
  | [], b0, b, h, e => by simp only [runOps, Option.some.injEq] at e; exact e ▸ h
  | op :: r, b0, b, h, e => by
    unfold runOps at e
    split at e
    · exact runOps_all (app_all h op) e
    · cases e
theorem FineB.all {b : Bk} (h : FineB b) : RteAll b.1 := by
  obtain ⟨-, -, ops, h3⟩ := h
  exact runOps_all (b0 := ([], [], 0)) ⟨by decide, List.Pairwise.nil, by simp⟩ h3.2
theorem lookL_le {L : List Rte} (h : ∀ x ∈ L, lpOk x.1 x.2.1 ∧ x.2.2 ≤ 9) (a n : Nat) : lookL L a n ≤ 9 := by
  unfold lookL
  split
  · rename_i x hx
    have := (h x (List.mem_of_find?_eq_some hx)).2
    omega
  · decide
theorem findL_le {L : List Rte} (h : ∀ x ∈ L, lpOk x.1 x.2.1 ∧ x.2.2 ≤ 9) (a : Nat) : ∀ i x, findL L a i = some x → x.1 ≤ 9 ∧ x.2 < i
  | 0, x, e => by simp [findL] at e
  | i + 1, x, e => by
    unfold findL at e
    split at e
    · simp only [Option.some.injEq] at e
      subst e
      have := lookL_le h (a - a % 2 ^ (16 - i)) i
      exact ⟨by simp only; omega, by simp only; omega⟩
    · have := findL_le h a i x e
      exact ⟨this.1, by omega⟩
theorem findR_all {L : List Rte} (h : RteAll L) (a : Int) (hz : (findR L a).2.2 = 0) : ∃ p k : Nat, findR L a = ((p : Int), (k : Int), 0) ∧ p ≤ 9 ∧ k ≤ 16 := by
  unfold findR at hz ⊢
  split at hz
  · simp at hz
  · rename_i hr
    rw [if_neg hr]
    cases hf : findL L a.toNat 17 with
    | none => rw [hf] at hz; simp at hz
    | some x =>
      have := findL_le h.2.2 a.toNat 17 x hf
      exact ⟨x.1, x.2, rfl, this.1, by omega⟩
theorem verb_num {b : Bk} {v : List UInt8} {l : List (List UInt8)} (h : l.all numW = false) : verbD b v l = (b, badT) := by
  unfold verbD; rw [if_pos h]
theorem refCalled_any (c : Int) (w : World) : Calls Tryz.prog 81 #[.int .i64 c] w fun e w' => e = .returned (.string (bytesOf (errT c))) ∧ w' = w := by
  by_cases h0 : c = 0
  · subst h0
    go_enter Tryz.func81, Tryz.ntmps81
    go_wp2
    go_ret
    exact ⟨rfl, rfl⟩
  · have e0 : (c == 0) = false := beq_eq_false_iff_ne.2 h0
    have HE := Lib.hid (errno_any c h0 w)
    clear h0
    go_enter Tryz.func81, Tryz.ntmps81
    go_wp2_with fail
    refine HE.out.mono ?_
    rintro e w' ⟨rfl, hw⟩
    rw [hw]
    go_wp2
    go_ret
    exact ⟨rfl, rfl⟩
end Go.Proofs.YtbcfcjecobihnaaGreatDoor
