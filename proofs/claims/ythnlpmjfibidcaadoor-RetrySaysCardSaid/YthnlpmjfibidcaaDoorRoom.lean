/- ferryhytheref1.Power, ferryhytheref4.Room: from how many slots one picks. -/
import Derived.Test.YthnlpmjfibidcaaDoorRows
import Derived.Test.YthnlpmjfibidcaaDoorRetryPlain
namespace Go.Proofs.YthnlpmjfibidcaaDoor
open Go.RowKit
set_option linter.unusedVariables false

theorem pow_step (k : Nat) (hk : k < 10) : 1 ≤ (2 : Int) ^ k ∧ (2 : Int) ^ k ≤ 512 ∧ 2 * (2 : Int) ^ k = 2 ^ (k + 1) := by
  have : k = 0 ∨ k = 1 ∨ k = 2 ∨ k = 3 ∨ k = 4 ∨ k = 5 ∨ k = 6 ∨ k = 7 ∨ k = 8 ∨ k = 9 := by omega
  rcases this with rfl | rfl | rfl | rfl | rfl | rfl | rfl | rfl | rfl | rfl <;> decide
theorem power_any (n : Nat) (hn : n ≤ 10) (w : World) : Calls Tryd.prog 32 #[.int .i64 n] w fun e w' => e = .returned (.int .i64 (2 ^ n)) ∧ w = w' := by
  go_enter Tryd.func32, Tryd.ntmps32
  go_wp2
  go_loop [3, 4] (fun pv iv => ∃ (k : Nat) (p : Int), k ≤ n ∧ iv = .int .i64 k ∧ pv = .int .i64 p ∧ Hid (p = 2 ^ k)) (fun _ iv => n - (intOf iv).toNat)
  case atStart => exact ⟨0, 1, Nat.zero_le _, rfl, rfl, Lib.hid rfl⟩
  case round =>
    obtain ⟨k, p, hk, rfl, rfl, hp⟩ := hrel
    by_cases hlt : k < n
    · have hki : (k : Int) < (n : Int) := by omega
      obtain ⟨h1, h2, h3⟩ := pow_step k (by omega)
      rw [← hp.out] at h1 h2 h3
      have H3 := Lib.hid h3; clear h3
      go_wp2
      go_round
      case rel => exact ⟨k + 1, 2 * p, by omega, by go_num, rfl, Lib.hid H3.out⟩
      case measure => simp [intOf]; omega
    · obtain rfl : k = n := by omega
      have hki : decide ((k : Int) < (k : Int)) = false := by simp
      go_wp2
      go_ret
      exact ⟨ret_int hp.out, rfl⟩
theorem room_any (m : Int) (hm : 0 ≤ m) (w : World) : Calls Tryd.prog 22 #[.int .i64 m] w fun e w' => e = .returned (.int .i64 (winOf m)) ∧ w = w' := by
  by_cases h10 : m ≤ 10
  · obtain ⟨k, rfl⟩ := Int.eq_ofNat_of_zero_le hm
    have hw : winOf (k : Int) = 2 ^ k := by unfold winOf; rw [if_pos h10, Int.toNat_natCast]
    have HW := Lib.hid hw; clear hw
    have hd : decide (10 < (k : Int)) = false := decide_eq_false (by omega)
    go_enter Tryd.func22, Tryd.ntmps22
    go_wp2_with fail
    refine (power_any k (by omega) _).mono ?_
    rintro e w' ⟨rfl, rfl⟩
    go_wp2
    go_ret
    exact ⟨ret_int HW.out.symm, rfl⟩
  · have hw : winOf m = 2 ^ 10 := by unfold winOf; rw [if_neg h10]; rfl
    have HW := Lib.hid hw; clear hw
    have hd : decide (10 < m) = true := decide_eq_true (by omega)
    clear h10
    go_enter Tryd.func22, Tryd.ntmps22
    go_wp2_with fail
    refine (power_any 10 (by omega) _).mono ?_
    rintro e w' ⟨rfl, rfl⟩
    go_wp2
    go_ret
    exact ⟨ret_int HW.out.symm, rfl⟩
end Go.Proofs.YthnlpmjfibidcaaDoor
