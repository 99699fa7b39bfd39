/- ferryhytheref3.Queues, Things: what is wrong with some queues; things in queues. -/
import Derived.Test.YtpfpaheafpibiaaDoorDrrCheck
import Derived.Test.YtpfpaheafpibiaaDoorAllR
import Derived.Deep.LoopGhost
import Derived.BigQuiet
namespace Go.Proofs.YtpfpaheafpibiaaDoor
open Go.RowKit
set_option linter.unusedVariables false
set_option maxRecDepth 100000

set_option maxHeartbeats 400000 in
theorem queuesH_any (ao : Option Addr) (len ac B : Nat) (rs : List Stp) (w : World) (hA : RowSl B w ao 1 (rs.map stpC)) (hr : StpsOk B w rs) (hlen : len = rs.length) (hl : rs.length ≤ 9223372036854775807) :
    Calls Tryd.prog 4 #[.slice ao len ac] w fun e w' => e = .returned (.int .i64 (checkCode (rowsOf rs))) ∧ w = w' := by
  subst hlen
  have HA := Lib.hid hA; clear hA
  have HR := Lib.hid hr; clear hr
  obtain ⟨c, hc⟩ : ∃ c, c = checkCode (rowsOf rs) := ⟨_, rfl⟩
  rw [← hc]
  unfold checkCode at hc
  rw [rowsOf_len] at hc
  by_cases h5 : 5 < rs.length
  · rw [if_pos h5] at hc
    subst hc
    have hd : decide ((5 : Int) < (rs.length : Int)) = true := by simp; omega
    go_enter Tryd.func4, Tryd.ntmps4
    go_wp2
    go_ret
    exact ⟨rfl, rfl⟩
  · rw [if_neg h5] at hc
    have HC := Lib.hid hc; clear hc
    have hd : decide ((5 : Int) < (rs.length : Int)) = false := by simp; omega
    obtain ⟨v, hv⟩ : ∃ v, v = Value.int .i64 c := ⟨_, rfl⟩
    rw [← hv]
    have HV := Lib.hid hv; clear hv
    go_enter Tryd.func4, Tryd.ntmps4
    go_wp2
    go_loop [3] (fun i => ∃ k : Nat, k ≤ rs.length ∧ i = .int .i64 k ∧ Hid (qsCode ((rowsOf rs).drop k) = c)) (fun i => rs.length - (intOf i).toNat)
    case atStart => exact ⟨0, Nat.zero_le _, rfl, by rw [HC.out]; rfl⟩
    case round =>
      obtain ⟨k, hk, rfl, hcode⟩ := hrel
      by_cases hlt : k < rs.length
      · obtain ⟨⟨ra, rc, xs⟩, hrk⟩ : ∃ r, rs[k]? = some r := ⟨_, List.getElem?_eq_getElem hlt⟩
        obtain ⟨b, off, rfl, hbb, c0⟩ := rows_at HA.out hrk
        obtain ⟨hi, hrl, hrm⟩ := HR.out _ (List.mem_iff_getElem?.2 ⟨k, hrk⟩)
        simp only at hi hrl hrm c0
        unfold maxLen at hrm
        have hst := hcode.out
        rw [qsCode_step (rowsOf_get hrk)] at hst
        simp only at hst
        have HI := Lib.hid hi; clear hi
        have HRK := Lib.hid hrk; clear hrk
        by_cases h8 : 8 < xs.length
        · have hq : qCode xs = 4 := if_pos h8
          rw [hq, if_neg (by decide)] at hst
          have hve : v = .int .i64 4 := by rw [HV.out, ← hst]
          have HVE := Lib.hid hve; clear hve hst hq
          have hd8 : decide ((8 : Int) < (xs.length : Int)) = true := by simp; omega
          go_wp2
          go_ret
          exact ⟨by first | exact HVE.out.symm | exact congrArg _ HVE.out.symm, rfl⟩
        · have hd8 : decide ((8 : Int) < (xs.length : Int)) = false := by simp; omega
          by_cases hall : ∀ x ∈ xs, 1 ≤ x ∧ x ≤ 20
          · have hq : qCode xs = 0 := qCode_zero.2 ⟨by omega, hall⟩
            rw [hq, if_pos rfl] at hst
            have HST := Lib.hid hst; clear hst hq
            have HAL := Lib.hid hall; clear hall
            go_wp2_with fail
            refine (allR_any _ _ _ _ xs 1 20 true _ HI.out rfl (by omega) (decide_eq_true HAL.out).symm).mono ?_
            rintro e w' ⟨rfl, rfl⟩
            go_wp2
            go_round
            case rel => exact ⟨k + 1, by omega, by go_num, HST.out⟩
            case measure => simp [intOf]; omega
          · have hq : qCode xs = 1 := by unfold qCode; rw [if_neg h8, if_neg hall]
            rw [hq, if_neg (by decide)] at hst
            have hve : v = .int .i64 1 := by rw [HV.out, ← hst]
            have HVE := Lib.hid hve; clear hve hst hq
            have HAL := Lib.hid hall; clear hall
            go_wp2_with fail
            refine (allR_any _ _ _ _ xs 1 20 false _ HI.out rfl (by omega) (decide_eq_false HAL.out).symm).mono ?_
            rintro e w' ⟨rfl, rfl⟩
            go_wp2
            go_ret
            exact ⟨by first | exact HVE.out.symm | exact congrArg _ HVE.out.symm, rfl⟩
      · have hc0 : c = 0 := by
          have := hcode.out
          rw [List.drop_of_length_le (by rw [rowsOf_len]; omega)] at this
          exact this.symm
        have hve : v = .int .i64 0 := by rw [HV.out, hc0]
        have HVE := Lib.hid hve; clear hve
        have HC0 := Lib.hid hc0; clear hc0
        go_wp2
        go_ret
        exact ⟨by first | exact HVE.out.symm | exact congrArg _ HVE.out.symm, rfl⟩


set_option maxHeartbeats 400000 in
theorem thingsH_any (ao : Option Addr) (len ac B : Nat) (rs : List Stp) (w : World) (hA : RowSl B w ao 1 (rs.map stpC)) (hr : StpsOk B w rs) (hlen : len = rs.length) (hok : QsOk (rowsOf rs)) (h5 : rs.length ≤ 5) :
    Calls Tryd.prog 12 #[.slice ao len ac] w fun e w' => e = .returned (.int .i64 (drrTot (rowsOf rs))) ∧ w = w' := by
  subst hlen
  have HA := Lib.hid hA; clear hA
  have HR := Lib.hid hr; clear hr
  have HOK := Lib.hid hok; clear hok
  go_enter Tryd.func12, Tryd.ntmps12
  go_wp2
  go_loop [3, 4] (fun nv i => ∃ (n k : Nat), k ≤ rs.length ∧ nv = .int .i64 n ∧ i = .int .i64 k ∧ n ≤ 8 * k ∧ Hid (n = psum (fun i => ((rowsOf rs).getD i []).length) k)) (fun _ i => rs.length - (intOf i).toNat)
  case atStart => exact ⟨0, 0, Nat.zero_le _, rfl, rfl, by omega, by simp [Hid, psum]⟩
  case round =>
    obtain ⟨n, k, hk, rfl, rfl, hn, hnk⟩ := hrel
    by_cases hlt : k < rs.length
    · obtain ⟨⟨ra, rc, xs⟩, hrk⟩ : ∃ r, rs[k]? = some r := ⟨_, List.getElem?_eq_getElem hlt⟩
      obtain ⟨b, off, rfl, hbb, c0⟩ := rows_at HA.out hrk
      have hq : (rowsOf rs).getD k [] = xs := by rw [List.getD_eq_getElem?_getD, rowsOf_get hrk]; rfl
      have h8 : xs.length ≤ 8 := by rw [← hq]; exact (HOK.out.at k).1
      have hnx : n + xs.length = psum (fun i => ((rowsOf rs).getD i []).length) (k + 1) := by rw [psum, ← hnk.out, hq]
      have HNX := Lib.hid hnx; clear hnx hq
      simp only at c0
      have HRK := Lib.hid hrk; clear hrk
      have hkl : (k : Int) < (rs.length : Int) := by omega
      have hk0 : (0 : Int) ≤ (k : Int) := by omega
      go_wp2
      go_round
      case rel => exact ⟨n + xs.length, k + 1, by omega, by go_num, by go_num, by omega, HNX.out⟩
      case measure => simp [intOf]; omega
    · obtain rfl : k = rs.length := by omega
      have hf : n = drrTot (rowsOf rs) := by unfold drrTot; rw [rowsOf_len]; exact hnk.out
      have HF := Lib.hid hf; clear hf
      go_wp2
      go_ret
      exact ⟨ret_int (congrArg Int.ofNat HF.out), rfl⟩
end Go.Proofs.YtpfpaheafpibiaaDoor
