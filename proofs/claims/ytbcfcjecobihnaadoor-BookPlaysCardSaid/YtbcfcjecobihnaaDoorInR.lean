/- ferryhytheref1.in: whether a number lies within bounds. -/
import Derived.Test.YtbcfcjecobihnaaDoorRows
import Derived.Test.YtbcfcjecobihnaaDoorBase
namespace Go.Proofs.YtbcfcjecobihnaaDoor
open Go.RowKit

theorem inR_yes (a b c : Int) (w : World) (h1 : b ≤ a) (h2 : a ≤ c) : Calls Tryd.prog 30 #[.int .i64 a, .int .i64 b, .int .i64 c] w fun e w' => e = .returned (.bool true) ∧ w = w' := by
  go_enter Tryd.func30, Tryd.ntmps30
  go_wp2
  go_ret
  exact ⟨ret_bool (by simp), rfl⟩

theorem inR_no (a b c : Int) (w : World) (h : ¬ (b ≤ a ∧ a ≤ c)) : Calls Tryd.prog 30 #[.int .i64 a, .int .i64 b, .int .i64 c] w fun e w' => e = .returned (.bool false) ∧ w = w' := by
  by_cases h1 : b ≤ a
  · have h2 : c < a := by omega
    clear h
    go_enter Tryd.func30, Tryd.ntmps30
    go_wp2
    go_ret
    exact ⟨ret_bool (by simpa using h2), rfl⟩
  · clear h
    go_enter Tryd.func30, Tryd.ntmps30
    go_wp2
    go_ret
    exact ⟨rfl, rfl⟩
end Go.Proofs.YtbcfcjecobihnaaDoor
