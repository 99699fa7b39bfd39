/- ferryhythesame.Sum: the sum of a slice. -/
import Derived.Test.YtnmddgjgmdegoaaRows
import Derived.Test.YtnmddgjgmdegoaaBase
import Derived.Test.YtnmddgjgmdegoaaSumPlain
namespace Go.Proofs.Ytnmddgjgmdegoaa
open Go.RowKit
set_option linter.unusedVariables false

/-- Of numbers that are small, and not many. -/
theorem sum_any (ao : Option Addr) (len ac B : Nat) (xs : List Int) (w : World) (hA : IntSl B w ao xs) (hlen : len = xs.length) (hl : xs.length ≤ 1000000) (hb : ∀ x ∈ xs, 0 ≤ x ∧ x ≤ 1000000) :
    Calls Try.prog 27 #[.slice ao len ac] w fun e w' => e = .returned (.int .i64 xs.sum) ∧ w = w' := by
  subst hlen
  have HA := Lib.hid hA; clear hA
  have HB := Lib.hid hb; clear hb
  obtain ⟨s, hs⟩ : ∃ s, s = xs.sum := ⟨_, rfl⟩
  rw [← hs]
  have HS := Lib.hid hs; clear hs
  go_enter Try.func27, Try.ntmps27
  go_wp2
  go_loop [3, 4] (fun m i => ∃ (k : Nat) (y : Int), k ≤ xs.length ∧ i = .int .i64 k ∧ m = .int .i64 y ∧ Hid (y = (xs.take k).sum) ∧ 0 ≤ y ∧ y ≤ 1000000000000) (fun _ i => xs.length - (intOf i).toNat)
  case atStart => exact ⟨0, 0, Nat.zero_le _, rfl, rfl, by simp [Hid], by omega, by omega⟩
  case round =>
    obtain ⟨k, y, hk, rfl, rfl, hy, hy0, hy1⟩ := hrel
    by_cases hlt : k < xs.length
    · obtain ⟨x, hx⟩ : ∃ x, xs[k]? = some x := ⟨_, List.getElem?_eq_getElem hlt⟩
      obtain ⟨b, off, rfl, _, c1⟩ := HA.out k x hx
      have hxb := HB.out x (List.mem_iff_getElem?.2 ⟨k, hx⟩)
      have Hx := Lib.hid hx; clear hx
      have h1 := sum_take_bd HB.out (k + 1) (by omega)
      rw [sum_take_succ Hx.out, ← hy.out] at h1
      have h2 : ((k + 1 : Nat) : Int) * 1000000 ≤ 1000000 * 1000000 := by omega
      have H1 : 0 ≤ y + x ∧ y + x ≤ 1000000000000 := by omega
      clear h1 h2
      go_wp2
      go_round
      case rel => exact ⟨k + 1, y + x, by omega, by go_num, by first | rfl | go_num, by simp only [Hid]; rw [sum_take_succ Hx.out, ← hy.out], H1.1, H1.2⟩
      case measure => simp [intOf]; omega
    · have hfin : y = s := by rw [hy.out, List.take_of_length_le (by omega), ← HS.out]
      have HF := Lib.hid hfin; clear hfin
      go_wp2
      go_ret
      exact ⟨ret_int HF.out, rfl⟩
end Go.Proofs.Ytnmddgjgmdegoaa
