/- ferryhythesame.Bools: two slices of the same bools are the same. -/
import Derived.Test.YtkheccnjcaljdaaDoorRows
import Derived.Test.YtkheccnjcaljdaaDoorBase
namespace Go.Proofs.YtkheccnjcaljdaaDoor
open Go.RowKit
set_option linter.unusedVariables false

set_option maxHeartbeats 400000 in
theorem bools_same (ao bo : Option Addr) (ac bc n : Nat) (f : Nat → Bool) (w : World) (hn : n ≤ 1000000)
    (h : ∀ w', (∃ q, w' = w.drewN q) → ∀ k, k < n → ∃ g o g' o', ao = some ⟨g, o, none⟩ ∧ bo = some ⟨g', o', none⟩ ∧ w'.cell? ⟨g, o + k, none⟩ = some (.bool (f k)) ∧ w'.cell? ⟨g', o' + k, none⟩ = some (.bool (f k))) :
    Calls Tryd.prog 20 #[.slice ao n ac, .slice bo n bc] w fun e w' => e = .returned (.bool true) ∧ ∃ q, w' = w.drewN q := by
  have H := Lib.hid h; clear h
  have hne : ((n : Int) != (n : Int)) = false := by simp
  go_enter Tryd.func20, Tryd.ntmps20
  go_wp2
  clear hne
  go_loopw [5] (fun i wr => ∃ k : Nat, k ≤ n ∧ i = .int .i64 k ∧ ∃ q, wr = w.drewN q) (fun i _ => n - (intOf i).toNat)
  case atStart => exact ⟨0, Nat.zero_le _, rfl, 0, rfl⟩
  case round =>
    obtain ⟨k, hk, rfl, hq⟩ := hrel
    have HQ := Lib.hid hq; clear hq
    by_cases hlt : k < n
    · have hki : (k : Int) < (n : Int) := by omega
      have hk0 : (0 : Int) ≤ (k : Int) := by omega
      obtain ⟨g, o, g', o', rfl, rfl, c1, c2⟩ := H.out wr HQ.out k hlt
      cases hf : f k with
      | true =>
        rw [hf] at c1 c2
        clear hf
        go_wp2_with fail
        go_quiet (fail)
        have HQ2 := Lib.hid (show ∃ q, wr.drewN nq = w.drewN q by obtain ⟨q, rfl⟩ := HQ.out; exact drewN_two w q nq)
        clear c1 c2
        generalize wr.drewN nq = wn at *
        go_wp2
        go_roundw
        case rel => exact ⟨k + 1, by omega, by go_num, HQ2.out⟩
        case measure => simp [intOf]; omega
      | false =>
        rw [hf] at c1 c2
        clear hf
        go_wp2_with fail
        go_quiet (fail)
        have HQ2 := Lib.hid (show ∃ q, wr.drewN nq = w.drewN q by obtain ⟨q, rfl⟩ := HQ.out; exact drewN_two w q nq)
        clear c1 c2
        generalize wr.drewN nq = wn at *
        go_wp2
        go_roundw
        case rel => exact ⟨k + 1, by omega, by go_num, HQ2.out⟩
        case measure => simp [intOf]; omega
    · obtain rfl : k = n := by omega
      have hki : decide ((k : Int) < (k : Int)) = false := by simp
      go_wp2
      go_ret
      exact ⟨rfl, HQ.out⟩
end Go.Proofs.YtkheccnjcaljdaaDoor
