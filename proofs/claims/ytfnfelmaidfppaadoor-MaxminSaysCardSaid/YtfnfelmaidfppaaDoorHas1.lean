/- ferryhytheref1.Has: whether a number is among those of a slice. -/
import Derived.Test.YtfnfelmaidfppaaDoorRows
import Derived.Test.YtfnfelmaidfppaaDoorBase
namespace Go.Proofs.YtfnfelmaidfppaaDoor
open Go.RowKit

theorem mem_take_succ {xs : List Int} {k : Nat} {x y : Int} (h : ¬ y ∈ xs.take k) (hx : xs[k]? = some x) (hne : ¬ x = y) : ¬ y ∈ xs.take (k + 1) := by
  rw [List.take_add_one, hx]; simp; exact ⟨h, fun e => hne e.symm⟩

set_option maxHeartbeats 400000 in
theorem has1_any (ao : Option Addr) (ac na B : Nat) (xs : List Int) (y : Int) (r : Bool) (w : World) (hA : IntSl B w ao xs) (hna : na = xs.length) (hal : xs.length ≤ 9223372036854775807) (hr : r = decide (y ∈ xs)) :
    Calls Tryd.prog 11 #[.slice ao na ac, .int .i64 y] w fun e w' => e = .returned (.bool r) ∧ w = w' := by
  subst hna
  have HA := Lib.hid hA; clear hA
  have HR := Lib.hid hr; clear hr
  go_enter Tryd.func11, Tryd.ntmps11
  go_wp2
  go_loop [5] (fun i => ∃ k : Nat, k ≤ xs.length ∧ i = .int .i64 k ∧ Hid (¬ y ∈ xs.take k)) (fun i => xs.length - (intOf i).toNat)
  case atStart => exact ⟨0, Nat.zero_le _, rfl, by simp [Hid]⟩
  case round =>
    obtain ⟨k, hk, rfl, htake⟩ := hrel
    by_cases hlt : k < xs.length
    · obtain ⟨x, hx⟩ : ∃ x, xs[k]? = some x := ⟨_, List.getElem?_eq_getElem hlt⟩
      obtain ⟨b, off, rfl, _, c1⟩ := HA.out k x hx
      have Hx := Lib.hid hx; clear hx
      by_cases hxy : x = y
      · subst hxy
        have hb : (x == x) = true := by simp
        go_wp2
        go_ret
        refine ⟨ret_bool ?_, rfl⟩
        rw [HR.out]
        symm
        simp only [decide_eq_true_eq]
        exact List.mem_iff_getElem?.2 ⟨k, Hx.out⟩
      · have hb : (x == y) = false := by simp [hxy]
        go_wp2
        go_round
        case rel => exact ⟨k + 1, by omega, by go_num, mem_take_succ htake.out Hx.out hxy⟩
        case measure => simp [intOf]; omega
    · go_wp2
      go_ret
      refine ⟨ret_bool ?_, rfl⟩
      rw [HR.out]
      symm
      simp only [decide_eq_false_iff_not]
      have h1 := htake.out
      rwa [List.take_of_length_le (by omega)] at h1
end Go.Proofs.YtfnfelmaidfppaaDoor
