/- ferryhythesame.Routes: whether two rows hold the same routes. -/
import Derived.Test.YtbcfcjecobihnaaDoorRtRow
import Derived.BigQuiet
namespace Go.Proofs.YtbcfcjecobihnaaDoor
open Go.RowKit
set_option linter.unusedVariables false
set_option linter.unusedSimpArgs false
set_option maxRecDepth 100000

set_option maxHeartbeats 1000000 in
theorem routesSame_any (ao bo : Option Addr) (ac bc B B' : Nat) (L : List Rte) (w : World) (hA : RteSl B w ao L) (hB : RteSl B' w bo L) (hl : L.length ≤ 1000) :
    Calls Tryd.prog 11 #[.slice ao L.length ac, .slice bo L.length bc] w fun e w' => e = .returned (.bool true) ∧ ∃ n, w' = w.drewN n := by
  have HA := Lib.hid hA; clear hA
  have HB := Lib.hid hB; clear hB
  have hne : ((L.length : Int) != (L.length : Int)) = false := by simp
  go_enter Tryd.func11, Tryd.ntmps11
  go_wp2
  go_loopw [5] (fun i wr => ∃ k : Nat, k ≤ L.length ∧ i = .int .i64 k ∧ ∃ n, wr = w.drewN n) (fun i _ => L.length - (intOf i).toNat)
  case atStart => exact ⟨0, Nat.zero_le _, rfl, 0, rfl⟩
  case round =>
    obtain ⟨k, hk, rfl, n, rfl⟩ := hrel
    by_cases hlt : k < L.length
    · obtain ⟨⟨x1, x2, x3⟩, hx⟩ : ∃ x, L[k]? = some x := ⟨_, List.getElem?_eq_getElem hlt⟩
      obtain ⟨b, o, rfl, _, c0, c1, c2⟩ := rteSl_at HA.out hx
      obtain ⟨b', o', rfl, _, d0, d1, d2⟩ := rteSl_at HB.out hx
      simp only at c0 c1 c2 d0 d1 d2
      have hki : (k : Int) < (L.length : Int) := by omega
      have hk0 : (0 : Int) ≤ (k : Int) := by omega
      have e1 : ((x1 : Int) == (x1 : Int)) = true := by simp
      have e2 : ((x2 : Int) == (x2 : Int)) = true := by simp
      have e3 : ((x3 : Int) == (x3 : Int)) = true := by simp
      clear hx
      go_wp2
      go_quiet (fail)
      go_wp2
      go_roundw
      case rel => exact ⟨k + 1, by omega, by go_num, (by first | exact ⟨_, rfl⟩ | exact drewN_two w n _)⟩
      case measure => simp [intOf]; omega
    · have hd : decide ((k : Int) < (L.length : Int)) = false := decide_eq_false (by omega)
      have hd2 : decide (k < L.length) = false := decide_eq_false hlt
      go_wp2
      go_ret
      exact ⟨rfl, _, rfl⟩
end Go.Proofs.YtbcfcjecobihnaaDoor
