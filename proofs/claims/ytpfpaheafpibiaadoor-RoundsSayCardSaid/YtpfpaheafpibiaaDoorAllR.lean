/- ferryhytheref1.All: whether all numbers of a slice lie within bounds. -/
import Derived.Test.YtpfpaheafpibiaaDoorRows
import Derived.Test.YtpfpaheafpibiaaDoorBase
import Derived.Test.YtpfpaheafpibiaaDoorInR
namespace Go.Proofs.YtpfpaheafpibiaaDoor
open Go.RowKit
set_option linter.unusedVariables false

theorem allR_take_succ {xs : List Int} {k : Nat} {x lo hi : Int} (h : ∀ y ∈ xs.take k, lo ≤ y ∧ y ≤ hi) (hx : xs[k]? = some x) (hb : lo ≤ x ∧ x ≤ hi) : ∀ y ∈ xs.take (k + 1), lo ≤ y ∧ y ≤ hi := by
  rw [List.take_add_one, hx]; intro y hy; simp at hy; rcases hy with hy | rfl
  · exact h y hy
  · exact hb

set_option maxHeartbeats 400000 in
theorem allR_any (ao : Option Addr) (ac na B : Nat) (xs : List Int) (lo hi : Int) (r : Bool) (w : World) (hA : IntSl B w ao xs) (hna : na = xs.length) (hal : xs.length ≤ 9223372036854775807) (hr : r = decide (∀ y ∈ xs, lo ≤ y ∧ y ≤ hi)) :
    Calls Tryd.prog 11 #[.slice ao na ac, .int .i64 lo, .int .i64 hi] w fun e w' => e = .returned (.bool r) ∧ w = w' := by
  subst hna
  have HA := Lib.hid hA; clear hA
  have HR := Lib.hid hr; clear hr
  go_enter Tryd.func11, Tryd.ntmps11
  go_wp2
  go_loop [7] (fun i => ∃ k : Nat, k ≤ xs.length ∧ i = .int .i64 k ∧ Hid (∀ y ∈ xs.take k, lo ≤ y ∧ y ≤ hi)) (fun i => xs.length - (intOf i).toNat)
  case atStart => exact ⟨0, Nat.zero_le _, rfl, by simp [Hid]⟩
  case round =>
    obtain ⟨k, hk, rfl, htake⟩ := hrel
    by_cases hlt : k < xs.length
    · obtain ⟨x, hx⟩ : ∃ x, xs[k]? = some x := ⟨_, List.getElem?_eq_getElem hlt⟩
      obtain ⟨b, off, rfl, _, c1⟩ := HA.out k x hx
      have Hx := Lib.hid hx; clear hx
      have hki : (k : Int) < (xs.length : Int) := by omega
      have hk0 : (0 : Int) ≤ (k : Int) := by omega
      by_cases hxy : lo ≤ x ∧ x ≤ hi
      · obtain ⟨g1, g2⟩ := hxy
        go_wp2_with fail
        refine (inR_yes _ _ _ _ g1 g2).mono ?_
        rintro e w' ⟨rfl, rfl⟩
        have HBD := Lib.hid (And.intro g1 g2)
        clear g1 g2 c1
        go_wp2
        go_round
        case rel => exact ⟨k + 1, by omega, by go_num, allR_take_succ htake.out Hx.out HBD.out⟩
        case measure => simp [intOf]; omega
      · have Hb := Lib.hid hxy; clear hxy
        go_wp2_with fail
        refine (inR_no _ _ _ _ Hb.out).mono ?_
        rintro e w' ⟨rfl, rfl⟩
        go_wp2
        go_ret
        refine ⟨ret_bool ?_, rfl⟩
        rw [HR.out]
        symm
        rw [decide_eq_false_iff_not]
        exact fun h => Hb.out (h x (List.mem_iff_getElem?.2 ⟨k, Hx.out⟩))
    · go_wp2
      go_ret
      refine ⟨ret_bool ?_, rfl⟩
      rw [HR.out]
      symm
      have h1 := htake.out
      rw [List.take_of_length_le (by omega)] at h1
      rw [decide_eq_true_eq]
      exact h1
end Go.Proofs.YtpfpaheafpibiaaDoor
