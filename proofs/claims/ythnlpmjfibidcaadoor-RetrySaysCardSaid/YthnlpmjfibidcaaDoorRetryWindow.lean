/- retry.window, retry.Window: from how many slots one is picked. -/
import Derived.Test.YthnlpmjfibidcaaDoorRows
import Derived.Test.YthnlpmjfibidcaaDoorBase
import Derived.Test.YthnlpmjfibidcaaDoorWithin
import Derived.Test.YthnlpmjfibidcaaDoorRetryPlain
namespace Go.Proofs.YthnlpmjfibidcaaDoor
open Go.RowKit

theorem wrap_small {x : Int} (h0 : 0 ≤ x) (h1 : x ≤ 1024) : wrap64 x = x := by
  unfold wrap64; omega

set_option maxHeartbeats 400000 in
theorem window_any (m : Int) (w : World) (h0 : 0 ≤ m) : Calls Tryd.prog 31 #[.int .i64 m] w fun e w' => e = .returned (.int .i64 (winOf m)) ∧ w = w' := by
  by_cases h1 : m ≤ 10
  · go_enter Tryd.func31, Tryd.ntmps31
    go_wp2
    go_ret
    refine ⟨ret_int ?_, rfl⟩
    have := pow_small h0 h1
    unfold winOf
    rw [if_pos h1, wrap_small (by omega) (by omega)]
  · go_enter Tryd.func31, Tryd.ntmps31
    go_wp2
    go_ret
    refine ⟨ret_int ?_, rfl⟩
    unfold winOf
    rw [if_neg (by omega)]
    exact wrap_small (by omega) (by omega)

set_option maxHeartbeats 400000 in
theorem retryWindow_ok (m : Int) (w : World) (h0 : 0 ≤ m) (h1 : m ≤ 200) : Calls Tryd.prog 23 #[.int .i64 m] w fun e w' => e = .returned (.tuple #[.int .i64 (winOf m), .nilIface]) ∧ w = w' := by
  go_enter Tryd.func23, Tryd.ntmps23
  go_wp2_with (first | (go_at_call 24; refine (within_yes _ _ _ _ (by omega) (by omega)).mono ?_; rintro e w' ⟨rfl, rfl⟩) | (go_at_call 31; refine (window_any _ _ (by omega)).mono ?_; rintro e w' ⟨rfl, rfl⟩))
  go_ret2
  exact ⟨rfl, rfl⟩

set_option maxHeartbeats 400000 in
theorem retryWindow_no (m : Int) (w : World) (h : ¬ (0 ≤ m ∧ m ≤ 200)) : Calls Tryd.prog 23 #[.int .i64 m] w fun e w' => e = .returned (.tuple #[.int .i64 0, .iface 64 (.int .i64 1)]) ∧ w = w' := by
  go_enter Tryd.func23, Tryd.ntmps23
  go_wp2_with (first | (go_at_call 24; refine (within_no _ _ _ _ h).mono ?_; rintro e w' ⟨rfl, rfl⟩))
  go_ret2
  exact ⟨rfl, rfl⟩
end Go.Proofs.YthnlpmjfibidcaaDoor
