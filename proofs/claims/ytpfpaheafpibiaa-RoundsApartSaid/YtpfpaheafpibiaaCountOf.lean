/- count of a number in a list (ferryhythelaw3). -/
import Derived.Test.YtpfpaheafpibiaaDrrRun
import Derived.Test.YtpfpaheafpibiaaInts
import Derived.Test.YtpfpaheafpibiaaCnts
namespace Go.Proofs.Ytpfpaheafpibiaa
open Go.RowKit
set_option linter.unusedVariables false

set_option maxHeartbeats 400000 in
theorem count_any (ao : Option Addr) (len ac B : Nat) (xs : List Int) (y : Int) (w : World) (hA : IntSl B w ao xs) (hlen : len = xs.length) (hl : xs.length ≤ 1000000) :
    Calls Try.prog 12 #[.slice ao len ac, .int .i64 y] w fun e w' => e = .returned (.int .i64 (xs.count y)) ∧ w = w' := by
  subst hlen
  have HA := Lib.hid hA; clear hA
  obtain ⟨s, hs⟩ : ∃ s, s = xs.count y := ⟨_, rfl⟩
  rw [← hs]
  have HS := Lib.hid hs; clear hs
  go_enter Try.func12, Try.ntmps12
  go_wp2
  go_loop [5, 6] (fun m i => ∃ (k c : Nat), k ≤ xs.length ∧ i = .int .i64 k ∧ m = .int .i64 c ∧ Hid (c = (xs.take k).count y) ∧ c ≤ k) (fun _ i => xs.length - (intOf i).toNat)
  case atStart => exact ⟨0, 0, Nat.zero_le _, rfl, rfl, by simp [Hid], Nat.le_refl _⟩
  case round =>
    obtain ⟨k, c, hk, rfl, rfl, hc, hck⟩ := hrel
    by_cases hlt : k < xs.length
    · obtain ⟨x, hx⟩ : ∃ x, xs[k]? = some x := ⟨_, List.getElem?_eq_getElem hlt⟩
      obtain ⟨b, off, rfl, _, c1⟩ := HA.out k x hx
      have Hx := Lib.hid hx; clear hx
      by_cases hxy : x = y
      · subst hxy
        have hb : (x == x) = true := by simp
        go_wp2
        go_round
        case rel => exact ⟨k + 1, c + 1, by omega, by go_num, by go_num, by simp only [Hid]; rw [List.take_add_one, Hx.out, List.count_append, ← hc.out]; simp, by omega⟩
        case measure => simp [intOf]; omega
      · have hb : (x == y) = false := by simp [hxy]
        go_wp2
        go_round
        case rel => exact ⟨k + 1, c, by omega, by go_num, rfl, by simp only [Hid]; rw [List.take_add_one, Hx.out, List.count_append, ← hc.out]; simp [List.count_cons, hb], by omega⟩
        case measure => simp [intOf]; omega
    · have hfin : c = s := by rw [hc.out, List.take_of_length_le (by omega), ← HS.out]
      subst hfin
      go_wp2
      go_ret
      exact ⟨rfl, rfl⟩
end Go.Proofs.Ytpfpaheafpibiaa
