/- core.All: whether all numbers of a slice lie within bounds. -/
import Derived.Test.YtbcfcjecobihnaaRows
import Derived.Test.YtbcfcjecobihnaaBase
import Derived.Test.YtbcfcjecobihnaaWithin
namespace Go.Proofs.Ytbcfcjecobihnaa
open Go.RowKit

theorem all_take_succ {xs : List Int} {k : Nat} {x lo hi : Int} (h : ∀ y ∈ xs.take k, lo ≤ y ∧ y ≤ hi) (hx : xs[k]? = some x) (hb : lo ≤ x ∧ x ≤ hi) : ∀ y ∈ xs.take (k + 1), lo ≤ y ∧ y ≤ hi := by
  rw [List.take_add_one, hx]; intro y hy; simp at hy; rcases hy with hy | rfl
  · exact h y hy
  · exact hb

set_option maxHeartbeats 400000 in
theorem all_any (ao : Option Addr) (ac na B : Nat) (xs : List Int) (lo hi : Int) (r : Bool) (w : World) (hA : IntSl B w ao xs) (hna : na = xs.length) (hal : xs.length ≤ 9223372036854775807) (hr : r = decide (∀ y ∈ xs, lo ≤ y ∧ y ≤ hi)) :
    Calls Try.prog 24 #[.slice ao na ac, .int .i64 lo, .int .i64 hi] w fun e w' => e = .returned (.bool r) ∧ w = w' := by
  subst hna
  have HA := Lib.hid hA; clear hA
  have HR := Lib.hid hr; clear hr
  go_enter Try.func24, Try.ntmps24
  go_wp2
  go_loop [8, 11] (fun _ i => ∃ k : Nat, k ≤ xs.length ∧ i = .int .i64 k ∧ Hid (∀ y ∈ xs.take k, lo ≤ y ∧ y ≤ hi)) (fun _ i => xs.length - (intOf i).toNat)
  case atStart => exact ⟨0, Nat.zero_le _, rfl, by simp [Hid]⟩
  case round =>
    obtain ⟨k, hk, rfl, htake⟩ := hrel
    by_cases hlt : k < xs.length
    · obtain ⟨x, hx⟩ : ∃ x, xs[k]? = some x := ⟨_, List.getElem?_eq_getElem hlt⟩
      obtain ⟨b, off, rfl, _, c1⟩ := HA.out k x hx
      have Hx := Lib.hid hx; clear hx
      by_cases hxy : lo ≤ x ∧ x ≤ hi
      · obtain ⟨g1, g2⟩ := hxy
        go_wp2_with (go_at_call 13; refine (within_yes _ _ _ _ (by omega) (by omega)).mono ?_; rintro e w' ⟨rfl, rfl⟩)
        go_round
        case rel => exact ⟨k + 1, by omega, by go_num, all_take_succ htake.out Hx.out ⟨g1, g2⟩⟩
        case measure => simp [intOf]; omega
      · have Hb := Lib.hid hxy; clear hxy
        go_wp2_with (go_at_call 13; refine (within_no _ _ _ _ Hb.out).mono ?_; rintro e w' ⟨rfl, rfl⟩)
        go_ret
        refine ⟨ret_bool ?_, rfl⟩
        rw [HR.out]
        symm
        simp only [decide_eq_false_iff_not]
        intro h
        exact Hb.out (h x (List.mem_iff_getElem?.2 ⟨k, Hx.out⟩))
    · go_wp2
      go_ret
      refine ⟨ret_bool ?_, rfl⟩
      rw [HR.out]
      symm
      simp only [decide_eq_true_eq]
      have h1 := htake.out
      rwa [List.take_of_length_le (by omega)] at h1
end Go.Proofs.Ytbcfcjecobihnaa
