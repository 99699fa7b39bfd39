/- lpm.bit. -/
import Derived.Test.YtbcfcjecobihnaaDoorRows
import Derived.Test.YtbcfcjecobihnaaDoorBase
import Derived.Laws.BitsLemmas
namespace Go.Proofs.YtbcfcjecobihnaaDoor
open Go.RowKit
set_option linter.unusedVariables false
theorem wrap_i64_small (n : Int) (h0 : 0 ≤ n) (h1 : n < 2 ^ 20) : IntKind.i64.wrap n = n := by simp [IntKind.wrap, IntKind.bits, IntKind.signed]; omega
theorem bits_and_one (n : Nat) (h : n < 2 ^ 20) : bits .and .i64 (n : Int) 1 = ((n % 2 : Nat) : Int) := by
  have h1 := bits_mask .i64 20 (by decide) wrap_i64_small 1 (by decide) (n : Int) (by omega) (by omega)
  simpa using h1
theorem lpbit_any (a i : Nat) (w : World) (ha : a ≤ 65535) (hi : i ≤ 15) :
    Calls Tryd.prog 33 #[.int .i64 a, .int .i64 i] w fun e w' => e = .returned (.int .i64 ((a / 2 ^ (15 - i) % 2 : Nat) : Int)) ∧ w = w' := by
  have hlt : a / 2 ^ (15 - i) < 2 ^ 20 := Nat.lt_of_le_of_lt (Nat.div_le_self _ _) (by omega)
  have hb := bits_and_one (a / 2 ^ (15 - i)) hlt
  have he : ((a / 2 ^ (15 - i) : Nat) : Int) = (a : Int) / 2 ^ (15 - i) := by simp
  rw [he] at hb
  have HB := Lib.hid hb
  clear hb he hlt
  go_enter Tryd.func33, Tryd.ntmps33
  go_wp2
  go_ret
  exact ⟨ret_int HB.out, rfl⟩
end Go.Proofs.YtbcfcjecobihnaaDoor
