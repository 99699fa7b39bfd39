/- ringFact: the closed fact holds. -/
import Derived.Test.YtommedhaaojgiaaRingGap
import Derived.Test.YtommedhaaojgiaaInts
namespace Go.Proofs.Ytommedhaaojgiaa
open Go.RowKit
set_option linter.unusedVariables false

theorem ringFact_out : ringOut [3, 1] 2 = [0, 0, 1, 0] := by decide
theorem ringFact_gap : gapOf (ringOut [3, 1] 2) = 1 := by rw [ringFact_out]; decide
theorem ringFact_args : RingOk [3, 1] 2 := ⟨by decide, by decide, by decide, by decide, by decide⟩

set_option maxHeartbeats 1000000 in
theorem ringFact_any (w : World) : Calls Try.prog 25 #[] w fun e w' => e = .returned (.bool true) ∧ Below w.heap.size w w' := by
  go_enter Try.func25, Try.ntmps25
  go_wp2_with fail
  refine (ringRun_ok _ _ _ _ [3, 1] 2 _ (intSl_new _ _ _ _ rfl) rfl (by simp) ringFact_args).mono ?_
  rintro e w1 ⟨va, rfl, hs, hb⟩
  have HB1 := Lib.hid (below_past hb); clear hb
  rw [show Int.toNat 2 = 2 from rfl, ringFact_out] at hs
  obtain ⟨ao1, c1, rfl, _, _⟩ := hs.intsShape (A := []) (C := [])
  have HX := Lib.hid (hs.intSl (A := []) (C := [])); clear hs
  go_wp2_with fail
  refine (ringGap_ok _ _ _ _ [3, 1] 2 _ (intSl_new _ _ _ _ rfl) rfl (by simp) ringFact_args).mono ?_
  rintro e w2 ⟨rfl, hb⟩
  rw [show Int.toNat 2 = 2 from rfl, ringFact_gap]
  have HB2 := Lib.hid (below_past hb); clear hb
  have HX2 := Lib.hid (fun o => (HX.out.on (Nat.le_refl _) HB2.out).past HB2.out.size o)
  go_wp2_with fail
  refine (ints_any _ _ _ _ _ _ _ _ [0, 0, 1, 0] [0, 0, 1, 0] true _ (HX2.out _) (intSl_new _ _ _ _ rfl) rfl rfl (by decide) (by decide)).mono ?_
  rintro e w3 ⟨rfl, hd⟩
  have HB3 := Lib.hid (below_past (below_of_drew hd)); clear hd
  go_wp2
  go_ret
  exact ⟨rfl, HB1.out.trans ((HB2.out.trans (HB3.out.mono HB2.out.size)).mono HB1.out.size)⟩
end Go.Proofs.Ytommedhaaojgiaa
