/- drr.Check: what the call gives is what the plain text says. -/
import Derived.Test.YtpfpaheafpibiaaDoorDrrPlain
import Derived.Test.YtpfpaheafpibiaaDoorStp
import Derived.Test.YtpfpaheafpibiaaDoorWithin
import Derived.Test.YtpfpaheafpibiaaDoorAll
import Derived.Test.YtpfpaheafpibiaaDoorCnts
import Derived.Deep.LoopGhost
import Derived.Test.YtpfpaheafpibiaaDoorBase
import Derived.BigQuiet
namespace Go.Proofs.YtpfpaheafpibiaaDoor
open Go.RowKit
set_option linter.unusedVariables false
set_option maxRecDepth 100000

set_option maxHeartbeats 400000 in
theorem drrCheck_any (ao : Option Addr) (len ac B : Nat) (rs : List Stp) (w : World) (hA : RowSl B w ao 1 (rs.map stpC)) (hr : StpsOk B w rs) (hlen : len = rs.length) (hl : rs.length ≤ 9223372036854775807) :
    Calls Tryd.prog 13 #[.slice ao len ac] w fun e w' => e = .returned (errV (checkCode (rowsOf rs))) ∧ w = w' := by
  subst hlen
  have HA := Lib.hid hA; clear hA
  have HR := Lib.hid hr; clear hr
  obtain ⟨c, hc⟩ : ∃ c, c = checkCode (rowsOf rs) := ⟨_, rfl⟩
  rw [← hc]
  unfold checkCode at hc
  rw [rowsOf_len] at hc
  by_cases h5 : 5 < rs.length
  · rw [if_pos h5] at hc
    subst hc
    rw [errV_not (by decide)]
    have hd : decide ((5 : Int) < (rs.length : Int)) = true := by simp; omega
    go_enter Tryd.func13, Tryd.ntmps13
    go_wp2
    go_ret
    exact ⟨rfl, rfl⟩
  · rw [if_neg h5] at hc
    have HC := Lib.hid hc; clear hc
    have hd : decide ((5 : Int) < (rs.length : Int)) = false := by simp; omega
    obtain ⟨v, hv⟩ : ∃ v, v = errV c := ⟨_, rfl⟩
    rw [← hv]
    have HV := Lib.hid hv; clear hv
    go_enter Tryd.func13, Tryd.ntmps13
    go_wp2
    go_loop [11] (fun i => ∃ k : Nat, k ≤ rs.length ∧ i = .int .i64 k ∧ Hid (qsCode ((rowsOf rs).drop k) = c)) (fun i => rs.length - (intOf i).toNat)
    case atStart => exact ⟨0, Nat.zero_le _, rfl, by rw [HC.out]; rfl⟩
    case round =>
      obtain ⟨k, hk, rfl, hcode⟩ := hrel
      by_cases hlt : k < rs.length
      · obtain ⟨⟨ra, rc, xs⟩, hrk⟩ : ∃ r, rs[k]? = some r := ⟨_, List.getElem?_eq_getElem hlt⟩
        obtain ⟨b, off, rfl, hbb, c0⟩ := rows_at HA.out hrk
        obtain ⟨hi, hrl, hrm⟩ := HR.out _ (List.mem_iff_getElem?.2 ⟨k, hrk⟩)
        simp only at hi hrl hrm c0
        unfold maxLen at hrm
        have hst := hcode.out
        rw [qsCode_step (rowsOf_get hrk)] at hst
        simp only at hst
        have HI := Lib.hid hi; clear hi
        have HRK := Lib.hid hrk; clear hrk
        by_cases h8 : 8 < xs.length
        · have hq : qCode xs = 4 := if_pos h8
          rw [hq, if_neg (by decide)] at hst
          have hve : v = .iface 43 (.int .i64 4) := by rw [HV.out, ← hst, errV_not (by decide)]
          have HVE := Lib.hid hve; clear hve hst hq
          have hd8 : decide ((8 : Int) < (xs.length : Int)) = true := by simp; omega
          go_wp2
          go_ret
          exact ⟨by first | exact HVE.out.symm | exact congrArg _ HVE.out.symm, rfl⟩
        · have hd8 : decide ((8 : Int) < (xs.length : Int)) = false := by simp; omega
          by_cases hall : ∀ x ∈ xs, 1 ≤ x ∧ x ≤ 20
          · have hq : qCode xs = 0 := qCode_zero.2 ⟨by omega, hall⟩
            rw [hq, if_pos rfl] at hst
            have HST := Lib.hid hst; clear hst hq
            have HAL := Lib.hid hall; clear hall
            go_wp2_with (go_at_call 17; refine (all_any _ _ _ _ xs 1 20 true _ HI.out rfl (by omega) (by simpa using HAL.out)).mono ?_; rintro e w' ⟨rfl, rfl⟩)
            go_round
            case rel => exact ⟨k + 1, by omega, by go_num, HST.out⟩
            case measure => simp [intOf]; omega
          · have hq : qCode xs = 1 := by unfold qCode; rw [if_neg h8, if_neg hall]
            rw [hq, if_neg (by decide)] at hst
            have hve : v = .iface 43 (.int .i64 1) := by rw [HV.out, ← hst, errV_not (by decide)]
            have HVE := Lib.hid hve; clear hve hst hq
            have HAL := Lib.hid hall; clear hall
            go_wp2_with (go_at_call 17; refine (all_any _ _ _ _ xs 1 20 false _ HI.out rfl (by omega) (by have := HAL.out; simpa using this)).mono ?_; rintro e w' ⟨rfl, rfl⟩)
            go_ret
            exact ⟨by first | exact HVE.out.symm | exact congrArg _ HVE.out.symm, rfl⟩
      · have hc0 : c = 0 := by
          have := hcode.out
          rw [List.drop_of_length_le (by rw [rowsOf_len]; omega)] at this
          exact this.symm
        have hve : v = .nilIface := by rw [HV.out, hc0]; rfl
        have HVE := Lib.hid hve; clear hve
        have HC0 := Lib.hid hc0; clear hc0
        go_wp2
        go_ret
        exact ⟨by first | exact HVE.out.symm | exact congrArg _ HVE.out.symm, rfl⟩
end Go.Proofs.YtpfpaheafpibiaaDoor
