/- The desk: told, words. -/
import Derived.Test.YtbcfcjecobihnaaGreatDoorDskPlain
import Derived.Test.YtbcfcjecobihnaaGreatDoorTold
import Derived.Test.YtbcfcjecobihnaaGreatDoorPk9
namespace Go.Proofs.YtbcfcjecobihnaaGreatDoor
open Go.RowKit
set_option linter.unusedVariables false
set_option linter.unusedSimpArgs false
set_option maxRecDepth 100000

set_option maxHeartbeats 2000000 in
theorem errno_any (c : Int) (h0 : ¬ c = 0) (w : World) : Calls Tryz.prog 109 #[.int .i64 c] w fun e w' => e = .returned (.string (bytesOf (errT c))) ∧ w' = w := by
  have e0 : (c == 0) = false := beq_eq_false_iff_ne.2 h0
  unfold errT
  rw [if_neg h0]
  by_cases h1 : c = 1
  · subst h1
    go_enter Tryz.func109, Tryz.ntmps109
    go_wp2
    go_ret
    exact ⟨rfl, rfl⟩
  have e1 : (c == 1) = false := beq_eq_false_iff_ne.2 h1
  rw [if_neg h1]
  by_cases h2 : c = 2
  · subst h2
    go_enter Tryz.func109, Tryz.ntmps109
    go_wp2
    go_ret
    exact ⟨rfl, rfl⟩
  have e2 : (c == 2) = false := beq_eq_false_iff_ne.2 h2
  rw [if_neg h2]
  by_cases h3 : c = 3
  · subst h3
    go_enter Tryz.func109, Tryz.ntmps109
    go_wp2
    go_ret
    exact ⟨rfl, rfl⟩
  have e3 : (c == 3) = false := beq_eq_false_iff_ne.2 h3
  rw [if_neg h3]
  by_cases h4 : c = 4
  · subst h4
    go_enter Tryz.func109, Tryz.ntmps109
    go_wp2
    go_ret
    exact ⟨rfl, rfl⟩
  have e4 : (c == 4) = false := beq_eq_false_iff_ne.2 h4
  rw [if_neg h4]
  by_cases h5 : c = 5
  · subst h5
    go_enter Tryz.func109, Tryz.ntmps109
    go_wp2
    go_ret
    exact ⟨rfl, rfl⟩
  have e5 : (c == 5) = false := beq_eq_false_iff_ne.2 h5
  rw [if_neg h5]
  by_cases h6 : c = 6
  · subst h6
    go_enter Tryz.func109, Tryz.ntmps109
    go_wp2
    go_ret
    exact ⟨rfl, rfl⟩
  have e6 : (c == 6) = false := beq_eq_false_iff_ne.2 h6
  rw [if_neg h6]
  by_cases h7 : c = 7
  · subst h7
    go_enter Tryz.func109, Tryz.ntmps109
    go_wp2
    go_ret
    exact ⟨rfl, rfl⟩
  have e7 : (c == 7) = false := beq_eq_false_iff_ne.2 h7
  rw [if_neg h7]
  clear h0 h1 h2 h3 h4 h5 h6 h7
  go_enter Tryz.func109, Tryz.ntmps109
  go_wp2
  go_ret
  exact ⟨rfl, rfl⟩
theorem as_nil (x : Value) (w : World) : Calls Tryz.prog 64 #[.nilIface, x] w fun e w' => e = .returned (.bool false) ∧ w' = w := by
  go_enter Tryz.func64, Tryz.ntmps64
  go_wp2
  go_ret
  exact ⟨rfl, rfl⟩
/-- desk.told of an error of the program's. -/
theorem dskTold_any (c : Int) (w : World) (hg : Door w) : Calls Tryz.prog 108 #[errV c] w fun e w' => e = .returned (.string (bytesOf (errT c))) ∧ Below w.heap.size w w' := by
  by_cases h0 : c = 0
  · subst h0
    rw [errV_zero]
    clear hg
    have HA := Lib.hid (fun (x : Value) (w : World) => as_nil x w)
    go_enter Tryz.func108, Tryz.ntmps108
    go_wp2_with fail
    refine (HA.out _ _).mono ?_
    rintro e w1 ⟨rfl, rfl⟩
    go_wp2
    go_ret
    exact ⟨rfl, (Below.refl _ w).alloc (Nat.le_refl _) _⟩
  · rw [errV_not h0]
    have hA := as_any c ⟨w.heap.size, 0, none⟩ (.int .i64 0) (w.alloc (.cells #[.int .i64 0] 68)) (hg.on (below_alloc w _)) (by simp) (by simp)
    have HA := Lib.hid hA
    have HE := Lib.hid (errno_any c h0)
    obtain ⟨t, ht⟩ : ∃ t, t = errT c := ⟨_, rfl⟩
    rw [← ht] at HE ⊢
    clear hA hg h0 ht
    go_enter Tryz.func108, Tryz.ntmps108
    go_wp2_with fail
    refine HA.out.mono ?_
    rintro e w1 ⟨rfl, rfl⟩
    go_wp2_with fail
    refine (HE.out _).mono ?_
    rintro e w2 ⟨rfl, rfl⟩
    go_wp2
    go_ret
    exact ⟨rfl, by first | exact ((((((Below.refl _ w).alloc (Nat.le_refl _) _).alloc (by simp) _).alloc (by simp <;> omega) _).alloc (by simp <;> omega) _).alloc (by simp <;> omega) _).setCell (p := ⟨w.heap.size, 0, none⟩) (Nat.le_refl _) _ | exact ((((((Below.refl _ w).alloc (Nat.le_refl _) _).alloc (by simp) _).alloc (by simp <;> omega) _).alloc (by simp <;> omega) _).alloc (by simp <;> omega) _)⟩
end Go.Proofs.YtbcfcjecobihnaaGreatDoor
