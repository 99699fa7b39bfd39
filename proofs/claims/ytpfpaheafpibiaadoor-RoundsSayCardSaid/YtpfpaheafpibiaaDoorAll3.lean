/- the sum of a queue (ferryhytheref3). -/
import Derived.Test.YtpfpaheafpibiaaDoorDrrCheck
import Derived.Test.YtpfpaheafpibiaaDoorInts
import Derived.Test.YtpfpaheafpibiaaDoorCnts
namespace Go.Proofs.YtpfpaheafpibiaaDoor
open Go.RowKit
set_option linter.unusedVariables false

set_option maxHeartbeats 400000 in
/-- ferryhytheref3.All: of numbers that are small, and not many. -/
theorem all3_any (ao : Option Addr) (len ac B : Nat) (xs : List Int) (w : World) (hA : IntSl B w ao xs) (hlen : len = xs.length) (hl : xs.length ≤ 1000) (hb : ∀ x ∈ xs, 0 ≤ x ∧ x ≤ 1000000) :
    Calls Tryd.prog 6 #[.slice ao len ac] w fun e w' => e = .returned (.int .i64 xs.sum) ∧ w = w' := by
  subst hlen
  have HA := Lib.hid hA; clear hA
  have HB := Lib.hid hb; clear hb
  obtain ⟨s, hs⟩ : ∃ s, s = xs.sum := ⟨_, rfl⟩
  rw [← hs]
  have HS := Lib.hid hs; clear hs
  go_enter Tryd.func6, Tryd.ntmps6
  go_wp2
  go_loop [3, 4] (fun m i => ∃ (k : Nat) (y : Int), k ≤ xs.length ∧ i = .int .i64 k ∧ m = .int .i64 y ∧ Hid (y = (xs.take k).sum) ∧ 0 ≤ y ∧ y ≤ 1000000000000) (fun _ i => xs.length - (intOf i).toNat)
  case atStart => exact ⟨0, 0, Nat.zero_le _, rfl, rfl, by simp [Hid], by omega, by omega⟩
  case round =>
    obtain ⟨k, y, hk, rfl, rfl, hy, hy0, hy1⟩ := hrel
    by_cases hlt : k < xs.length
    · obtain ⟨x, hx⟩ : ∃ x, xs[k]? = some x := ⟨_, List.getElem?_eq_getElem hlt⟩
      obtain ⟨b, off, rfl, _, c1⟩ := HA.out k x hx
      have hxb := HB.out x (List.mem_iff_getElem?.2 ⟨k, hx⟩)
      have h0 := sum_take_nonneg xs (k + 1) (fun x hx => (HB.out x hx).1)
      have h1 := take_sum_le HB.out (k + 1) (by omega)
      rw [take_sum_succ hx, ← hy.out] at h0 h1
      have H1 : 0 ≤ y + x ∧ y + x ≤ 1000000000000 := by omega
      have hst : y + x = (xs.take (k + 1)).sum := by rw [take_sum_succ hx, ← hy.out]
      have HST := Lib.hid hst; clear hst hx h0 h1
      go_wp2
      go_round
      case rel => exact ⟨k + 1, y + x, by omega, by go_num, by first | rfl | go_num, HST.out, H1.1, H1.2⟩
      case measure => simp [intOf]; omega
    · have hfin : y = s := by rw [hy.out, List.take_of_length_le (by omega), ← HS.out]
      have HF := Lib.hid hfin; clear hfin
      go_wp2
      go_ret
      exact ⟨ret_int HF.out, rfl⟩
end Go.Proofs.YtpfpaheafpibiaaDoor
