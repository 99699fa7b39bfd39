/- cmp.Compare, cmp.Or of two numbers. -/
import Derived.Test.YtbcfcjecobihnaaDoorBase
import Derived.Test.YtbcfcjecobihnaaDoorRows
import Derived.Deep.RegionHeld3
import Derived.Deep.RegionWith
import Derived.Deep.DeepCutAuto
namespace Go.Proofs.YtbcfcjecobihnaaDoor
open Go.RowKit
set_option linter.unusedVariables false
set_option maxRecDepth 100000

def cmpI (a b : Int) : Int := if a < b then -1 else if b < a then 1 else 0
theorem compare_any (a b : Int) (w : World) : Calls Tryd.prog 29 #[.int .i64 a, .int .i64 b] w fun e w' => e = .returned (.int .i64 (cmpI a b)) ∧ w = w' := by
  have ha : (a != a) = false := by simp
  have hb : (b != b) = false := by simp
  unfold cmpI
  by_cases h1 : a < b
  · rw [if_pos h1]
    go_enter Tryd.func29, Tryd.ntmps29
    go_wp2
    go_ret
    exact ⟨rfl, rfl⟩
  · rw [if_neg h1]
    have d1 : decide (a < b) = false := decide_eq_false h1
    by_cases h2 : b < a
    · rw [if_pos h2]
      clear h1
      go_enter Tryd.func29, Tryd.ntmps29
      go_wp2
      go_ret
      exact ⟨rfl, rfl⟩
    · rw [if_neg h2]
      have d2 : decide (b < a) = false := decide_eq_false h2
      clear h1 h2
      go_enter Tryd.func29, Tryd.ntmps29
      go_wp2
      go_ret
      exact ⟨rfl, rfl⟩

def or2 (x y : Int) : Int := if x ≠ 0 then x else y
theorem or2_any (ao : Option Addr) (B : Nat) (x y : Int) (w : World) (hA : IntSl B w ao [x, y]) :
    Calls Tryd.prog 28 #[.slice ao 2 2] w fun e w' => e = .returned (.int .i64 (or2 x y)) ∧ w = w' := by
  obtain ⟨b, off, rfl, _, c0⟩ := hA 0 x rfl
  obtain ⟨b1, off1, he, _, c1⟩ := hA 1 y rfl
  simp only [Option.some.injEq, Addr.mk.injEq, and_true] at he
  obtain ⟨rfl, rfl⟩ := he
  rw [Nat.add_zero] at c0
  clear hA
  obtain ⟨r, hr⟩ : ∃ r, r = or2 x y := ⟨_, rfl⟩
  rw [← hr]
  have HR := Lib.hid hr; clear hr
  go_enter Tryd.func28, Tryd.ntmps28
  go_wp2
  go_loop [8] (fun i => ∃ k : Nat, k ≤ 2 ∧ i = .int .i64 k ∧ Hid ((1 ≤ k → x = 0) ∧ (2 ≤ k → y = 0))) (fun i => 2 - (intOf i).toNat)
  case atStart => exact ⟨0, by omega, rfl, ⟨fun h => by omega, fun h => by omega⟩⟩
  case round =>
    obtain ⟨k, hk, rfl, hz⟩ := hrel
    have h4 : k = 0 ∨ k = 1 ∨ k = 2 := by omega
    rcases h4 with rfl | rfl | rfl
    · by_cases h : x = 0
      · have hb : (x != 0) = false := by simp [h]
        have H := Lib.hid h; clear h
        go_wp2
        go_round
        case rel => exact ⟨1, by omega, by go_num, ⟨fun _ => H.out, fun h => by omega⟩⟩
        case measure => simp [intOf]
      · have hb : (x != 0) = true := by simp [h]
        have e : r = x := by rw [HR.out]; unfold or2; rw [if_pos h]
        clear h
        subst e
        go_wp2
        go_ret
        exact ⟨rfl, rfl⟩
    · by_cases h : y = 0
      · have hb : (y != 0) = false := by simp [h]
        have H := Lib.hid h; clear h
        go_wp2
        go_round
        case rel => exact ⟨2, by omega, by go_num, ⟨fun _ => hz.out.1 (by omega), fun _ => H.out⟩⟩
        case measure => simp [intOf]
      · have hb : (y != 0) = true := by simp [h]
        have e : r = y := by rw [HR.out]; unfold or2; rw [if_neg (fun h => h (hz.out.1 (by omega)))]
        clear h
        subst e
        go_wp2
        go_ret
        exact ⟨rfl, rfl⟩
    · have e : r = 0 := by rw [HR.out]; unfold or2; rw [if_neg (fun h => h (hz.out.1 (by omega))), hz.out.2 (by omega)]
      subst e
      go_wp2
      go_ret
      exact ⟨rfl, rfl⟩
end Go.Proofs.YtbcfcjecobihnaaDoor
