/- RetryWindow returns true for every number. -/
import Derived.Test.YthnlpmjfibidcaaRows
import Derived.Test.YthnlpmjfibidcaaRetryFact
import Derived.Test.YthnlpmjfibidcaaIn4
namespace Go.Proofs.Ythnlpmjfibidcaa
open Go.RowKit

theorem winOf_double {m : Int} (h0 : 0 ≤ m) (h1 : m < 10) : winOf (m + 1) = 2 * winOf m := by
  obtain ⟨k, rfl⟩ := Int.eq_ofNat_of_zero_le h0
  have : k = 0 ∨ k = 1 ∨ k = 2 ∨ k = 3 ∨ k = 4 ∨ k = 5 ∨ k = 6 ∨ k = 7 ∨ k = 8 ∨ k = 9 := by omega
  rcases this with rfl | rfl | rfl | rfl | rfl | rfl | rfl | rfl | rfl | rfl <;> decide
theorem winOf_same {m : Int} (h1 : 10 ≤ m) : winOf (m + 1) = winOf m := by
  unfold winOf
  rw [if_neg (by omega)]
  by_cases h : m ≤ 10
  · obtain rfl : m = 10 := by omega
    decide
  · rw [if_neg h]

set_option maxHeartbeats 400000 in
theorem retryWindow_walk (m : Int) (w : World) (_ : -9223372036854775808 ≤ m ∧ m ≤ 9223372036854775807) :
    Calls Try.prog 7 #[.int .i64 m] w fun e w' => e = .returned (.bool true) ∧ Below w.heap.size w w' := by
  by_cases hin : 0 ≤ m ∧ m ≤ 200
  · obtain ⟨h0, h1⟩ := hin
    have hw := winOf_bd h0
    by_cases h200 : m = 200
    · subst h200
      have h3 : winOf 200 = 1024 := by decide
      go_enter Try.func7, Try.ntmps7
      go_wp2_with fail
      refine (retryFact_any _).mono ?_
      rintro e w1 ⟨rfl, hb⟩
      go_wp2_with fail
      refine (retryWindow_ok 200 _ (by decide) (by decide)).mono ?_
      rintro e w' ⟨rfl, rfl⟩
      go_wp2
      go_ret
      exact ⟨rfl, hb⟩
    · have hb200 : (m == 200) = false := by simp; omega
      have hw2 := winOf_bd (m := m + 1) (by omega)
      obtain ⟨a, ha⟩ : ∃ a, a = winOf m := ⟨_, rfl⟩
      obtain ⟨b, hb⟩ : ∃ b, b = winOf (m + 1) := ⟨_, rfl⟩
      rw [← ha] at hw
      rw [← hb] at hw2
      have C1 := fun w => retryWindow_ok m w h0 h1
      have C2 := fun w => retryWindow_ok (m + 1) w (by omega) (by omega)
      rw [← ha] at C1
      rw [← hb] at C2
      have hC1 := Lib.hid C1; clear C1
      have hC2 := Lib.hid C2; clear C2
      by_cases h10 : m < 10
      · have hm1 : (b == 2 * a) = true := by rw [ha, hb, winOf_double h0 h10]; simp
        clear ha hb h200
        go_enter Try.func7, Try.ntmps7
        go_wp2_with fail
        refine (retryFact_any _).mono ?_
        rintro e w1 ⟨rfl, hb⟩
        go_wp2_with fail
        refine (hC1.out _).mono ?_
        rintro e w' ⟨rfl, rfl⟩
        go_wp2_with fail
        refine (hC2.out _).mono ?_
        rintro e w' ⟨rfl, rfl⟩
        go_wp2_with fail
        refine (in4_yes _ _ _ _ (by omega) (by omega)).mono ?_
        rintro e w' ⟨rfl, rfl⟩
        go_wp2
        go_ret
        exact ⟨rfl, hb⟩
      · have hm1 : (b == a) = true := by rw [ha, hb, winOf_same (by omega)]; simp
        have h10' : decide (m < 10) = false := by simp; omega
        have h10'' : (10 : Int) ≤ m := by omega
        clear ha hb h200
        go_enter Try.func7, Try.ntmps7
        go_wp2_with fail
        refine (retryFact_any _).mono ?_
        rintro e w1 ⟨rfl, hb⟩
        go_wp2_with fail
        refine (hC1.out _).mono ?_
        rintro e w' ⟨rfl, rfl⟩
        go_wp2_with fail
        refine (hC2.out _).mono ?_
        rintro e w' ⟨rfl, rfl⟩
        go_wp2_with fail
        refine (in4_yes _ _ _ _ (by omega) (by omega)).mono ?_
        rintro e w' ⟨rfl, rfl⟩
        go_wp2
        go_ret
        exact ⟨rfl, hb⟩
  · have Hin := Lib.hid hin; clear hin
    go_enter Try.func7, Try.ntmps7
    go_wp2_with fail
    refine (retryFact_any _).mono ?_
    rintro e w1 ⟨rfl, hb⟩
    go_wp2_with fail
    refine (retryWindow_no m _ Hin.out).mono ?_
    rintro e w' ⟨rfl, rfl⟩
    go_wp2_with fail
    refine (in4_no _ _ _ _ Hin.out).mono ?_
    rintro e w' ⟨rfl, rfl⟩
    go_wp2
    go_ret
    exact ⟨rfl, hb⟩
end Go.Proofs.Ythnlpmjfibidcaa
